-- Written by a program of this session (wip/tools/stubprint.py): contracts by hand where the kit's print has none.
import Derived.Test.YtpdpomjgfmdjfaaKFnExactCheckRegCodeQ0
import Derived.Test.YtpdpomjgfmdjfaaKFnExactCheckRegCodeQ3
namespace Go.Proofs.Ytpdpomjgfmdjfaa.Z
open Go.RowKit Go.Proofs.YtpdpomjgfmdjfaaW.PrintWords Go.Proofs.YtpdpomjgfmdjfaaW.PrintLast Go.Proofs.YtpdpomjgfmdjfaaW.PrintMore
attribute [local go_sem] max2_int min2_int max_two min_two max_three min_three max_four min_four   -- for this text's walks alone
set_option linter.unusedVariables false
set_option linter.unusedSimpArgs false

/-! ### impl_RegCode_read: function 126 -/
/-- the registers that are told -/
def nreg (a0 : Int) : Nat := if a0 < 0 then 0 else if 46 < a0 then 46 else a0.toNat
def rdC (a0 : Int) (n m : Nat) (s : List Int) (st : List S117) (l3 : List Int) : Nat → Nat → List Int → Int × List S117 × List Int × Bool
 | 0, _, os => ((m : Int), st, os, decide (1 ≤ a0) && decide (a0 ≤ 46))
 | d + 1, j, os => if hasB n (rd l3 (j : Int)) = true ∧ rd s (rd l3 (j : Int)) ≠ -1 then rdC a0 n m s st l3 d (j + 1) (os ++ [rd s (rd l3 (j : Int))]) else (0, [], [], false)
def rdB (a0 : Int) (n m : Nat) (l2 : List S80) (l3 : List Int) : Nat → Nat → List Int → List S117 → Int × List S117 × List Int × Bool
 | 0, _, s, st => rdC a0 n m s st l3 l3.length 0 []
 | d + 1, j, s, st => if hasB n (zae l2 (j : Int)).f0 = true ∧ hasB n (zae l2 (j : Int)).f1 = true ∧ hasB n (zae l2 (j : Int)).f2 = true ∧ rd s (zae l2 (j : Int)).f1 ≠ -1 ∧ rd s (zae l2 (j : Int)).f2 ≠ -1 then rdB a0 n m l2 l3 d (j + 1) (s.set (zae l2 (j : Int)).f0.toNat ((m : Int) + (st.length : Int))) (st ++ [⟨mn (rd s (zae l2 (j : Int)).f1) (rd s (zae l2 (j : Int)).f2), mx (rd s (zae l2 (j : Int)).f1) (rd s (zae l2 (j : Int)).f2)⟩]) else (0, [], [], false)
def rdA (a0 : Int) (n : Nat) (l1 : List Int) (l2 : List S80) (l3 : List Int) : Nat → Nat → List Int → Int × List S117 × List Int × Bool
 | 0, _, s => rdB a0 n l1.length l2 l3 l2.length 0 s []
 | d + 1, j, s => if hasB n (rd l1 (j : Int)) = true ∧ rd s (rd l1 (j : Int)) = -1 then rdA a0 n l1 l2 l3 d (j + 1) (s.set (rd l1 (j : Int)).toNat (j : Int)) else (0, [], [], false)
def impl_RegCode_read.f (a0 : Int) (l1 : List Int) (l2 : List S80) (l3 : List Int) : Option (Int × List S117 × List Int × Bool) :=
 if l1.length ≤ 1000 ∧ l2.length ≤ 1000 ∧ l3.length ≤ 1000 then some (rdA a0 (nreg a0) l1 l2 l3 l1.length 0 (List.replicate (nreg a0) (-1))) else none
theorem nreg_max (a0 : Int) : (if (if 46 < a0 then 46 else a0) < 0 then 0 else (if 46 < a0 then 46 else a0)) = (nreg a0 : Int) := by
 unfold nreg
 repeat' split
 all_goals omega
theorem nreg_le (a0 : Int) : nreg a0 ≤ 46 := by
 unfold nreg
 repeat' split
 all_goals omega
theorem zal {n : Nat} {r : Int} (h : hasB n r = true) : 0 ≤ r ∧ r < (n : Int) := by
 unfold hasB at h
 simpa using h
set_option maxHeartbeats 16000000 in
set_option maxRecDepth 100000 in
theorem impl_RegCode_read.calls (g0 : Nat) (a0 : Int) (A1 : Option Addr) (c1 : Nat) (l1 : List Int) (A2 : Option Addr) (c2 : Nat) (l2 : List S80) (A3 : Option Addr) (c3 : Nat) (l3 : List Int) (r1 : Int) (r2 : List S117) (r3 : List Int) (r4 : Bool) (w : World) (hb0 : w.heap[g0]? = some (.cells #[.int .i64 a0, .slice A1 l1.length c1, .slice A2 l2.length c2, .slice A3 l3.length c3] 30 (0, 0))) (hr1 : Kd.C (Kd.int .i64) w A1 l1.length l1) (hc1 : l1.length ≤ c1) (hr2 : Kd.C k80 w A2 l2.length l2) (hc2 : l2.length ≤ c2) (hr3 : Kd.C (Kd.int .i64) w A3 l3.length l3) (hc3 : l3.length ≤ c3) (h : impl_RegCode_read.f a0 l1 l2 l3 = some (r1, r2, r3, r4)) :
  Calls Try.prog 126 #[.pointer (some ⟨g0, 0, none⟩)] w fun e w' => ∃ v1_ v2_ : Value, e = .returned (.tuple #[.agg #[.int .i64 r1, v1_, v2_], .bool r4]) ∧ Kd.R k117 117 w' w.heap.size (fun _ => True) v1_ r2 ∧ Kd.R (Kd.int .i64) 3 w' w.heap.size (fun _ => True) v2_ r3 ∧ Below w.heap.size w w' := by
 have hu36 := Try.underlying36
 have hu80 := Try.underlying80
 have hu117 := Try.underlying117
 have hu30 := Try.underlying30
 unfold impl_RegCode_read.f at h
 by_cases hlim : l1.length ≤ 1000 ∧ l2.length ≤ 1000 ∧ l3.length ≤ 1000
 rotate_left
 ·rw [if_neg hlim] at h; cases h
 rw [if_pos hlim] at h
 have HE0 := Aside0.mk (Option.some.inj h)
 have hl1 : l1.length ≤ 1000 := hlim.1
 have hl2 : l2.length ≤ 1000 := hlim.2.1
 have hl3 : l3.length ≤ 1000 := hlim.2.2
 have HL1 := Aside0.mk hl1
 have HL2 := Aside0.mk hl2
 have HL3 := Aside0.mk hl3
 have HC1 := Aside0.mk hr1
 have HC2 := Aside0.mk hr2
 have HC3 := Aside0.mk hr3
 have BK0 := Aside0.mk hb0
 obtain ⟨m0, hm0⟩ : ∃ m : Int, (if 46 < a0 then 46 else a0) = m := ⟨_, rfl⟩
 obtain ⟨n, hn⟩ : ∃ n : Nat, nreg a0 = n := ⟨_, rfl⟩
 have hmx : (if m0 < 0 then 0 else m0) = (n : Int) := by rw [← hm0, ← hn]; exact nreg_max a0
 have hn46 : n ≤ 46 := by rw [← hn]; exact nreg_le a0
 have HNN := Aside0.mk hn46
 rw [hn] at HE0
 have HRP := Aside0.mk (fun (A : Option Addr) (c : Nat) (W : World) (hC : Kd.C (Kd.int .i64) W A 1 [-1]) (hc : 1 ≤ c) => slices_Repeat_int_int.calls A c [-1] (n : Int) (List.replicate n (-1)) W hC hc (by unfold slices_Repeat_int_int.f; rw [if_pos ⟨rfl, by omega, by omega⟩]; rfl))
 clear h hlim hl1 hl2 hl3 hr1 hr2 hr3 hb0 hc1 hc2 hc3 hn hn46
 have b0 : w.cell? ⟨g0, 0, none⟩ = some (.int .i64 a0) := za1 (za7 BK0.out (Fr.start w).bel) 0
 have b1 : w.cell? ⟨g0, 1, none⟩ = some (.slice A1 l1.length c1) := za1 (za7 BK0.out (Fr.start w).bel) 1
 go_enter Try.func126, Try.ntmps126
 go_wp2_with ((with_reducible refine zaf (N := 2) rfl ?_); refine zad ?hg (N := 2) ?hd (cs := #[.int .i64 0, .slice none 0 0, .slice none 0 0]) (t := 36) ?hr ?_; (case hd => rfl); (case hg => rfl); (case hr => first | (go_simp; done) | (go_simp; rfl)); clear b0 b1; intro g2 hg_ w1 hbox_ hb_; have H1 := Aside0.mk ((Fr.start w).zb6 hbox_ hb_ hg_); clear hbox_ hb_ hg_; have b0 : w1.cell? ⟨g0, 0, none⟩ = some (.int .i64 a0) := za1 (za7 BK0.out (H1.out).bel) 0; have b1 : w1.cell? ⟨g0, 1, none⟩ = some (.slice A1 l1.length c1) := za1 (za7 BK0.out (H1.out).bel) 1)
 refine start_ (n := 18) (S := fun w' => w'.cell? ⟨g0, 0, none⟩ = some (.int .i64 a0) ∧ w'.cell? ⟨g0, 1, none⟩ = some (.slice A1 l1.length c1)) (ds := [16, 17]) #[false, false, false, false, false, false, false, false, false, false, false, false, false, false, false, false, false, false] (by kernel_rfl) rfl rfl ⟨za1 (za7 BK0.out (H1.out.drew).bel) 0, za1 (za7 BK0.out (H1.out.drew).bel) 1⟩ (fun hHeld => ?_)
 refine pure_ (i := 0) (N := some 13) (v := ?_) (a' := ?_) #[true, false, false, false, false, false, false, false, false, false, false, false, false, false, false, false, false, false] rfl rfl (by kernel_rfl) (fun _ _ _ h => h) (Or.inl ⟨by rfl, ?_⟩) ?_ ?_
 rotate_left
 ·intro w'
  go_simp
  with_reducible rfl
 rotate_left
 ·simp only [Act.put, sa_, sb_, sc_, i64_w, i32_w]
  rfl
 refine pure_ (i := 1) (N := some 14) (v := ?_) (a' := ?_) #[true, true, false, false, false, false, false, false, false, false, false, false, false, false, false, false, false, false] rfl rfl (by kernel_rfl) (fun _ _ _ h => h) (Or.inl ⟨by rfl, ?_⟩) ?_ ?_
 rotate_left
 ·intro w'
  go_simp
  with_reducible rfl
 rotate_left
 ·simp only [Act.put, sa_, sb_, sc_, i64_w, i32_w]
  rfl
 refine pure_ (i := 2) (N := some 15) (v := ?_) (a' := ?_) #[true, true, true, false, false, false, false, false, false, false, false, false, false, false, false, false, false, false] rfl rfl (by kernel_rfl) (fun _ _ _ h => h) (Or.inl ⟨by rfl, ?_⟩) ?_ ?_
 rotate_left
 ·intro w'
  go_simp
  with_reducible rfl
 rotate_left
 ·simp only [Act.put, sa_, sb_, sc_, i64_w, i32_w]
  rfl
 refine pure_ (i := 7) (N := some 20) (v := ?_) (a' := ?_) #[true, true, true, false, false, false, false, true, false, false, false, false, false, false, false, false, false, false] rfl rfl (by kernel_rfl) (fun _ _ _ h => h) (Or.inl ⟨by rfl, ?_⟩) ?_ ?_
 rotate_left
 ·intro w'
  go_simp
  with_reducible rfl
 rotate_left
 ·simp only [Act.put, sa_, sb_, sc_, i64_w, i32_w]
  rfl
 refine pure_ (i := 8) (N := some 21) (v := ?_) (a' := ?_) #[true, true, true, false, false, false, false, true, true, false, false, false, false, false, false, false, false, false] rfl rfl (by kernel_rfl) (fun _ _ _ h => h) (Or.inl ⟨by rfl, ?_⟩) ?_ ?_
 rotate_left
 ·intro w'
  go_simp
  with_reducible rfl
 rotate_left
 ·simp only [Act.put, sa_, sb_, sc_, i64_w, i32_w]
  rfl
 refine pure_ (i := 9) (N := some 22) (v := ?_) (a' := ?_) #[true, true, true, false, false, false, false, true, true, true, false, false, false, false, false, false, false, false] rfl rfl (by kernel_rfl) (fun _ _ _ h => h) (Or.inl ⟨by rfl, ?_⟩) ?_ ?_
 rotate_left
 ·intro w'
  go_simp
  with_reducible rfl
 rotate_left
 ·simp only [Act.put, sa_, sb_, sc_, i64_w, i32_w]
  rfl
 refine take_ (i := 3) (N := some 16) (v := ?_) (a' := ?_) #[true, true, true, true, false, false, false, true, true, true, false, false, false, false, false, false, false, false] rfl rfl (by kernel_rfl) (fun _ _ _ h => h) (Or.inl ⟨by rfl, ?_⟩) hHeld ?_ ?_
 rotate_left
 ·rintro w' ⟨s0, s1⟩
  go_simp
  with_reducible rfl
 rotate_left
 ·simp only [Act.put, sa_, sb_, sc_, i64_w, i32_w]
  rfl
 refine pure_ (i := 4) (N := some 17) (v := ?_) (a' := ?_) #[true, true, true, true, true, false, false, true, true, true, false, false, false, false, false, false, false, false] rfl rfl (by kernel_rfl) (fun _ _ _ h => h) (Or.inl ⟨by rfl, ?_⟩) ?_ ?_
 rotate_left
 ·intro w'
  go_simp
  with_reducible rfl
 rotate_left
 ·simp only [Act.put, sa_, sb_, sc_, i64_w, i32_w]
  rfl
 refine pure_ (i := 5) (N := some 18) (v := ?_) (a' := ?_) #[true, true, true, true, true, true, false, true, true, true, false, false, false, false, false, false, false, false] rfl rfl (by kernel_rfl) (fun _ _ _ h => h) (Or.inl ⟨by rfl, ?_⟩) ?_ ?_
 rotate_left
 ·intro w'
  go_simp
  with_reducible rfl
 rotate_left
 ·simp only [Act.put, sa_, sb_, sc_, i64_w, i32_w]
  rfl
 refine take_ (i := 10) (N := some 23) (v := ?_) (a' := ?_) #[true, true, true, true, true, true, false, true, true, true, true, false, false, false, false, false, false, false] rfl rfl (by kernel_rfl) (fun _ _ _ h => h) (Or.inl ⟨by rfl, ?_⟩) hHeld ?_ ?_
 rotate_left
 ·rintro w' ⟨s0, s1⟩
  go_simp
  with_reducible rfl
 rotate_left
 ·simp only [Act.put, sa_, sb_, sc_, i64_w, i32_w]
  rfl
 refine pure_ (i := 11) (N := some 24) (v := ?_) (a' := ?_) #[true, true, true, true, true, true, false, true, true, true, true, true, false, false, false, false, false, false] rfl rfl (by kernel_rfl) (fun _ _ _ h => h) (Or.inl ⟨by rfl, ?_⟩) ?_ ?_
 rotate_left
 ·intro w'
  go_simp
  with_reducible rfl
 rotate_left
 ·simp only [Act.put, sa_, sb_, sc_, i64_w, i32_w]
  rfl
 refine pure_ (i := 12) (N := some 25) (v := ?_) (a' := ?_) #[true, true, true, true, true, true, false, true, true, true, true, true, true, false, false, false, false, false] rfl rfl (by kernel_rfl) (fun _ _ _ h => h) (Or.inl ⟨by rfl, ?_⟩) ?_ ?_
 rotate_left
 ·intro w'
  go_simp
  with_reducible rfl
 rotate_left
 ·simp only [Act.put, sa_, sb_, sc_, i64_w, i32_w]
  rfl
 refine join_ (σ := Value × Value × Nat × Nat) 2 #[true, true, true, true, true, true, true, true, true, true, true, true, true, true, true, true, false, false] (fun s_ => [(19, s_.1), (26, s_.2.1), (4, .pointer (some ⟨s_.2.2.1, 0, none⟩)), (5, .pointer (some ⟨s_.2.2.2, 0, none⟩))]) (fun s_ w' => Fr w w (fun _ => False) [row (Kd.int .i64) 3 s_.2.1 (List.replicate n (-1)), box s_.2.2.1 36 #[.int .i64 0, .slice none 0 0, .slice none 0 0], box s_.2.2.2 22 #[.slice none 0 0], box g2 36 #[.int .i64 0, .slice none 0 0, .slice none 0 0]] w') ?_ ?_
 rotate_left
 ·intro hCont
  refine three_ (i := 6) (j := 14) (k := 15) (Ni := some 19) (Nj := some 4) (Nk := some 5) #[true, true, true, true, true, true, true, true, true, true, true, true, true, false, false, false, false, false] #[true, true, true, true, true, true, false, true, true, true, true, true, true, false, true, false, false, false] #[true, true, true, true, true, true, false, true, true, true, true, true, true, false, false, true, false, false] rfl rfl rfl rfl rfl rfl (by kernel_rfl) (by decide) (by decide) (by decide) (fun K hK => ?_) (fun K hK => ?_) (fun K hK => ?_)
  ·skip
   refine Kd.R_lit_step (Kd.int .i64) (w0 := w) w.heap.size 3 ?hg (N := 19) ?hd (xs := ([-1] : List Int)) (inner := [.int .i64 (-1)]) (ok := fun k => w1.heap.size ≤ k) (okp := fun k => w1.heap.size ≤ k) ?hr ?hp (fun _ hk => hk) (Nat.le_refl _) (H1.out.drew).bel (H1.out.drew).size (by simp) ?_; (case hd => rfl); (case hg => rfl); (case hr => first | (go_simp; done) | (go_simp; rfl)); (case hp => exact (Reps.one (show Kd.M (Kd.int .i64) _ _ _ (-1) [.int .i64 (-1)] from rfl) (Reps.none _ _)))
   intro v19 wd1 hr_ hb_ hg_ hn_; have HD1 := Aside0.mk ((H1.out.drew).row_lit hr_ hg_); clear hb_ hg_ hn_; clear hr_
   refine hK.out _ _ ⟨za1 (za7 BK0.out (HD1.out).bel) 0, za1 (za7 BK0.out (HD1.out).bel) 1⟩ (fun hHeld => ?_)
   clear hK K
   refine norm_ (a' := ?_) ?_ ?_
   rotate_left
   ·show Act.put _ (some 19) _ = _
    simp only [Act.put, sa_, sb_, sc_, i64_w, i32_w]
    rfl
   refine three_ (i := 13) (j := 14) (k := 15) (Ni := some 26) (Nj := some 4) (Nk := some 5) #[true, true, true, true, true, true, true, true, true, true, true, true, true, true, false, false, false, false] #[true, true, true, true, true, true, true, true, true, true, true, true, true, false, true, false, false, false] #[true, true, true, true, true, true, true, true, true, true, true, true, true, false, false, true, false, false] rfl rfl rfl rfl rfl rfl (by kernel_rfl) (by decide) (by decide) (by decide) (fun K hK => ?_) (fun K hK => ?_) (fun K hK => ?_)
   ·skip
    obtain ⟨A9, c9, e9, hc9, hC9⟩ := (HD1.out).row_reads (i := 0) rfl
    have HRC := Aside0.mk (HRP.out A9 c9 _ hC9 hc9)
    rw [show (Value.slice A9 ([-1] : List Int).length c9) = v19 from e9.symm] at HRC
    clear hC9 hc9 e9
    refine goes_ Try.func118 (by kernel_rfl) rfl #[v19, .int .i64 (n : Int)] (by rfl) rfl rfl (by simp only [List.map_toArray, List.map_cons, List.map_nil]; rfl) ?_
    with_reducible refine HRC.out.mono ?_
    rintro e wd2 ⟨v26, rfl, hr_, hb_⟩
    refine ⟨_, rfl, ?_⟩
    have HD2 := Aside0.mk ((HD1.out).row_new hr_ hb_)
    clear hr_ hb_
    refine hK.out _ _ ⟨za1 (za7 BK0.out (HD2.out).bel) 0, za1 (za7 BK0.out (HD2.out).bel) 1⟩ (fun hHeld => ?_)
    clear hK K
    refine norm_ (a' := ?_) ?_ ?_
    rotate_left
    ·show Act.put _ (some 26) _ = _
     simp only [Act.put, sa_, sb_, sc_, i64_w, i32_w]
     rfl
    refine two_ (i := 14) (j := 15) (Ni := some 4) (Nj := some 5) #[true, true, true, true, true, true, true, true, true, true, true, true, true, true, true, false, false, false] #[true, true, true, true, true, true, true, true, true, true, true, true, true, true, false, true, false, false] rfl rfl rfl rfl (by kernel_rfl) (by decide) (by decide) (fun K hK => ?_) (fun K hK => ?_)
    ·skip
     refine box_step ?hg (N := 4) ?hd (cs := #[.int .i64 0, .slice none 0 0, .slice none 0 0]) (t := 36) ?hr ?_; (case hd => rfl); (case hg => rfl); (case hr => first | (go_simp; done) | (go_simp; rfl))
     intro g4 hg_ wd3 hbox_ hb_; have HD3 := Aside0.mk ((HD2.out).zb6 hbox_ hb_ hg_); clear hbox_ hb_ hg_
     refine hK.out _ _ ⟨za1 (za7 BK0.out (HD3.out).bel) 0, za1 (za7 BK0.out (HD3.out).bel) 1⟩ (fun hHeld => ?_)
     clear hK K
     refine norm_ (a' := ?_) ?_ ?_
     rotate_left
     ·show Act.put _ (some 4) _ = _
      simp only [Act.put, sa_, sb_, sc_, i64_w, i32_w]
      rfl
     refine one_ (i := 15) (N := some 5) #[true, true, true, true, true, true, true, true, true, true, true, true, true, true, true, true, false, false] rfl rfl (by kernel_rfl) (by decide) (fun K hK => ?_)
     refine box_step ?hg (N := 5) ?hd (cs := #[.slice none 0 0]) (t := 22) ?hr ?_; (case hd => rfl); (case hg => rfl); (case hr => first | (go_simp; done) | (go_simp; rfl))
     intro g5 hg_ wd4 hbox_ hb_; have HD4 := Aside0.mk ((HD3.out).zb6 hbox_ hb_ hg_); clear hbox_ hb_ hg_
     refine hK.out _ _ ⟨za1 (za7 BK0.out (HD4.out).bel) 0, za1 (za7 BK0.out (HD4.out).bel) 1⟩ (fun hHeld => ?_)
     clear hK K
     refine norm_ (a' := ?_) ?_ ?_
     rotate_left
     ·show Act.put _ (some 5) _ = _
      simp only [Act.put, sa_, sb_, sc_, i64_w, i32_w]
      rfl
     exact norm_ (by simp only [putAll, Act.put, sa_, sb_, sc_]) (hCont (v19, v26, g4, g5) _ (Fr.pick HD4.out [2, 1, 0, 4] (by decide) (by simp)))
    ·skip
     refine box_step ?hg (N := 5) ?hd (cs := #[.slice none 0 0]) (t := 22) ?hr ?_; (case hd => rfl); (case hg => rfl); (case hr => first | (go_simp; done) | (go_simp; rfl))
     intro g5 hg_ wd3 hbox_ hb_; have HD3 := Aside0.mk ((HD2.out).zb6 hbox_ hb_ hg_); clear hbox_ hb_ hg_
     refine hK.out _ _ ⟨za1 (za7 BK0.out (HD3.out).bel) 0, za1 (za7 BK0.out (HD3.out).bel) 1⟩ (fun hHeld => ?_)
     clear hK K
     refine norm_ (a' := ?_) ?_ ?_
     rotate_left
     ·show Act.put _ (some 5) _ = _
      simp only [Act.put, sa_, sb_, sc_, i64_w, i32_w]
      rfl
     refine one_ (i := 14) (N := some 4) #[true, true, true, true, true, true, true, true, true, true, true, true, true, true, true, true, false, false] rfl rfl (by kernel_rfl) (by decide) (fun K hK => ?_)
     refine box_step ?hg (N := 4) ?hd (cs := #[.int .i64 0, .slice none 0 0, .slice none 0 0]) (t := 36) ?hr ?_; (case hd => rfl); (case hg => rfl); (case hr => first | (go_simp; done) | (go_simp; rfl))
     intro g4 hg_ wd4 hbox_ hb_; have HD4 := Aside0.mk ((HD3.out).zb6 hbox_ hb_ hg_); clear hbox_ hb_ hg_
     refine hK.out _ _ ⟨za1 (za7 BK0.out (HD4.out).bel) 0, za1 (za7 BK0.out (HD4.out).bel) 1⟩ (fun hHeld => ?_)
     clear hK K
     refine norm_ (a' := ?_) ?_ ?_
     rotate_left
     ·show Act.put _ (some 4) _ = _
      simp only [Act.put, sa_, sb_, sc_, i64_w, i32_w]
      rfl
     exact norm_ (by simp only [putAll, Act.put, sa_, sb_, sc_]) (hCont (v19, v26, g4, g5) _ (Fr.pick HD4.out [2, 0, 1, 4] (by decide) (by simp)))
   ·skip
    refine box_step ?hg (N := 4) ?hd (cs := #[.int .i64 0, .slice none 0 0, .slice none 0 0]) (t := 36) ?hr ?_; (case hd => rfl); (case hg => rfl); (case hr => first | (go_simp; done) | (go_simp; rfl))
    intro g4 hg_ wd2 hbox_ hb_; have HD2 := Aside0.mk ((HD1.out).zb6 hbox_ hb_ hg_); clear hbox_ hb_ hg_
    refine hK.out _ _ ⟨za1 (za7 BK0.out (HD2.out).bel) 0, za1 (za7 BK0.out (HD2.out).bel) 1⟩ (fun hHeld => ?_)
    clear hK K
    refine norm_ (a' := ?_) ?_ ?_
    rotate_left
    ·show Act.put _ (some 4) _ = _
     simp only [Act.put, sa_, sb_, sc_, i64_w, i32_w]
     rfl
    refine two_ (i := 13) (j := 15) (Ni := some 26) (Nj := some 5) #[true, true, true, true, true, true, true, true, true, true, true, true, true, true, true, false, false, false] #[true, true, true, true, true, true, true, true, true, true, true, true, true, false, true, true, false, false] rfl rfl rfl rfl (by kernel_rfl) (by decide) (by decide) (fun K hK => ?_) (fun K hK => ?_)
    ·skip
     obtain ⟨A9, c9, e9, hc9, hC9⟩ := (HD2.out).row_reads (i := 1) rfl
     have HRC := Aside0.mk (HRP.out A9 c9 _ hC9 hc9)
     rw [show (Value.slice A9 ([-1] : List Int).length c9) = v19 from e9.symm] at HRC
     clear hC9 hc9 e9
     refine goes_ Try.func118 (by kernel_rfl) rfl #[v19, .int .i64 (n : Int)] (by rfl) rfl rfl (by simp only [List.map_toArray, List.map_cons, List.map_nil]; rfl) ?_
     with_reducible refine HRC.out.mono ?_
     rintro e wd3 ⟨v26, rfl, hr_, hb_⟩
     refine ⟨_, rfl, ?_⟩
     have HD3 := Aside0.mk ((HD2.out).row_new hr_ hb_)
     clear hr_ hb_
     refine hK.out _ _ ⟨za1 (za7 BK0.out (HD3.out).bel) 0, za1 (za7 BK0.out (HD3.out).bel) 1⟩ (fun hHeld => ?_)
     clear hK K
     refine norm_ (a' := ?_) ?_ ?_
     rotate_left
     ·show Act.put _ (some 26) _ = _
      simp only [Act.put, sa_, sb_, sc_, i64_w, i32_w]
      rfl
     refine one_ (i := 15) (N := some 5) #[true, true, true, true, true, true, true, true, true, true, true, true, true, true, true, true, false, false] rfl rfl (by kernel_rfl) (by decide) (fun K hK => ?_)
     refine box_step ?hg (N := 5) ?hd (cs := #[.slice none 0 0]) (t := 22) ?hr ?_; (case hd => rfl); (case hg => rfl); (case hr => first | (go_simp; done) | (go_simp; rfl))
     intro g5 hg_ wd4 hbox_ hb_; have HD4 := Aside0.mk ((HD3.out).zb6 hbox_ hb_ hg_); clear hbox_ hb_ hg_
     refine hK.out _ _ ⟨za1 (za7 BK0.out (HD4.out).bel) 0, za1 (za7 BK0.out (HD4.out).bel) 1⟩ (fun hHeld => ?_)
     clear hK K
     refine norm_ (a' := ?_) ?_ ?_
     rotate_left
     ·show Act.put _ (some 5) _ = _
      simp only [Act.put, sa_, sb_, sc_, i64_w, i32_w]
      rfl
     exact norm_ (by simp only [putAll, Act.put, sa_, sb_, sc_]) (hCont (v19, v26, g4, g5) _ (Fr.pick HD4.out [1, 2, 0, 4] (by decide) (by simp)))
    ·skip
     refine box_step ?hg (N := 5) ?hd (cs := #[.slice none 0 0]) (t := 22) ?hr ?_; (case hd => rfl); (case hg => rfl); (case hr => first | (go_simp; done) | (go_simp; rfl))
     intro g5 hg_ wd3 hbox_ hb_; have HD3 := Aside0.mk ((HD2.out).zb6 hbox_ hb_ hg_); clear hbox_ hb_ hg_
     refine hK.out _ _ ⟨za1 (za7 BK0.out (HD3.out).bel) 0, za1 (za7 BK0.out (HD3.out).bel) 1⟩ (fun hHeld => ?_)
     clear hK K
     refine norm_ (a' := ?_) ?_ ?_
     rotate_left
     ·show Act.put _ (some 5) _ = _
      simp only [Act.put, sa_, sb_, sc_, i64_w, i32_w]
      rfl
     refine one_ (i := 13) (N := some 26) #[true, true, true, true, true, true, true, true, true, true, true, true, true, true, true, true, false, false] rfl rfl (by kernel_rfl) (by decide) (fun K hK => ?_)
     obtain ⟨A9, c9, e9, hc9, hC9⟩ := (HD3.out).row_reads (i := 2) rfl
     have HRC := Aside0.mk (HRP.out A9 c9 _ hC9 hc9)
     rw [show (Value.slice A9 ([-1] : List Int).length c9) = v19 from e9.symm] at HRC
     clear hC9 hc9 e9
     refine goes_ Try.func118 (by kernel_rfl) rfl #[v19, .int .i64 (n : Int)] (by rfl) rfl rfl (by simp only [List.map_toArray, List.map_cons, List.map_nil]; rfl) ?_
     with_reducible refine HRC.out.mono ?_
     rintro e wd4 ⟨v26, rfl, hr_, hb_⟩
     refine ⟨_, rfl, ?_⟩
     have HD4 := Aside0.mk ((HD3.out).row_new hr_ hb_)
     clear hr_ hb_
     refine hK.out _ _ ⟨za1 (za7 BK0.out (HD4.out).bel) 0, za1 (za7 BK0.out (HD4.out).bel) 1⟩ (fun hHeld => ?_)
     clear hK K
     refine norm_ (a' := ?_) ?_ ?_
     rotate_left
     ·show Act.put _ (some 26) _ = _
      simp only [Act.put, sa_, sb_, sc_, i64_w, i32_w]
      rfl
     exact norm_ (by simp only [putAll, Act.put, sa_, sb_, sc_]) (hCont (v19, v26, g4, g5) _ (Fr.pick HD4.out [0, 2, 1, 4] (by decide) (by simp)))
   ·skip
    refine box_step ?hg (N := 5) ?hd (cs := #[.slice none 0 0]) (t := 22) ?hr ?_; (case hd => rfl); (case hg => rfl); (case hr => first | (go_simp; done) | (go_simp; rfl))
    intro g5 hg_ wd2 hbox_ hb_; have HD2 := Aside0.mk ((HD1.out).zb6 hbox_ hb_ hg_); clear hbox_ hb_ hg_
    refine hK.out _ _ ⟨za1 (za7 BK0.out (HD2.out).bel) 0, za1 (za7 BK0.out (HD2.out).bel) 1⟩ (fun hHeld => ?_)
    clear hK K
    refine norm_ (a' := ?_) ?_ ?_
    rotate_left
    ·show Act.put _ (some 5) _ = _
     simp only [Act.put, sa_, sb_, sc_, i64_w, i32_w]
     rfl
    refine two_ (i := 13) (j := 14) (Ni := some 26) (Nj := some 4) #[true, true, true, true, true, true, true, true, true, true, true, true, true, true, false, true, false, false] #[true, true, true, true, true, true, true, true, true, true, true, true, true, false, true, true, false, false] rfl rfl rfl rfl (by kernel_rfl) (by decide) (by decide) (fun K hK => ?_) (fun K hK => ?_)
    ·skip
     obtain ⟨A9, c9, e9, hc9, hC9⟩ := (HD2.out).row_reads (i := 1) rfl
     have HRC := Aside0.mk (HRP.out A9 c9 _ hC9 hc9)
     rw [show (Value.slice A9 ([-1] : List Int).length c9) = v19 from e9.symm] at HRC
     clear hC9 hc9 e9
     refine goes_ Try.func118 (by kernel_rfl) rfl #[v19, .int .i64 (n : Int)] (by rfl) rfl rfl (by simp only [List.map_toArray, List.map_cons, List.map_nil]; rfl) ?_
     with_reducible refine HRC.out.mono ?_
     rintro e wd3 ⟨v26, rfl, hr_, hb_⟩
     refine ⟨_, rfl, ?_⟩
     have HD3 := Aside0.mk ((HD2.out).row_new hr_ hb_)
     clear hr_ hb_
     refine hK.out _ _ ⟨za1 (za7 BK0.out (HD3.out).bel) 0, za1 (za7 BK0.out (HD3.out).bel) 1⟩ (fun hHeld => ?_)
     clear hK K
     refine norm_ (a' := ?_) ?_ ?_
     rotate_left
     ·show Act.put _ (some 26) _ = _
      simp only [Act.put, sa_, sb_, sc_, i64_w, i32_w]
      rfl
     refine one_ (i := 14) (N := some 4) #[true, true, true, true, true, true, true, true, true, true, true, true, true, true, true, true, false, false] rfl rfl (by kernel_rfl) (by decide) (fun K hK => ?_)
     refine box_step ?hg (N := 4) ?hd (cs := #[.int .i64 0, .slice none 0 0, .slice none 0 0]) (t := 36) ?hr ?_; (case hd => rfl); (case hg => rfl); (case hr => first | (go_simp; done) | (go_simp; rfl))
     intro g4 hg_ wd4 hbox_ hb_; have HD4 := Aside0.mk ((HD3.out).zb6 hbox_ hb_ hg_); clear hbox_ hb_ hg_
     refine hK.out _ _ ⟨za1 (za7 BK0.out (HD4.out).bel) 0, za1 (za7 BK0.out (HD4.out).bel) 1⟩ (fun hHeld => ?_)
     clear hK K
     refine norm_ (a' := ?_) ?_ ?_
     rotate_left
     ·show Act.put _ (some 4) _ = _
      simp only [Act.put, sa_, sb_, sc_, i64_w, i32_w]
      rfl
     exact norm_ (by simp only [putAll, Act.put, sa_, sb_, sc_]) (hCont (v19, v26, g4, g5) _ (Fr.pick HD4.out [1, 0, 2, 4] (by decide) (by simp)))
    ·skip
     refine box_step ?hg (N := 4) ?hd (cs := #[.int .i64 0, .slice none 0 0, .slice none 0 0]) (t := 36) ?hr ?_; (case hd => rfl); (case hg => rfl); (case hr => first | (go_simp; done) | (go_simp; rfl))
     intro g4 hg_ wd3 hbox_ hb_; have HD3 := Aside0.mk ((HD2.out).zb6 hbox_ hb_ hg_); clear hbox_ hb_ hg_
     refine hK.out _ _ ⟨za1 (za7 BK0.out (HD3.out).bel) 0, za1 (za7 BK0.out (HD3.out).bel) 1⟩ (fun hHeld => ?_)
     clear hK K
     refine norm_ (a' := ?_) ?_ ?_
     rotate_left
     ·show Act.put _ (some 4) _ = _
      simp only [Act.put, sa_, sb_, sc_, i64_w, i32_w]
      rfl
     refine one_ (i := 13) (N := some 26) #[true, true, true, true, true, true, true, true, true, true, true, true, true, true, true, true, false, false] rfl rfl (by kernel_rfl) (by decide) (fun K hK => ?_)
     obtain ⟨A9, c9, e9, hc9, hC9⟩ := (HD3.out).row_reads (i := 2) rfl
     have HRC := Aside0.mk (HRP.out A9 c9 _ hC9 hc9)
     rw [show (Value.slice A9 ([-1] : List Int).length c9) = v19 from e9.symm] at HRC
     clear hC9 hc9 e9
     refine goes_ Try.func118 (by kernel_rfl) rfl #[v19, .int .i64 (n : Int)] (by rfl) rfl rfl (by simp only [List.map_toArray, List.map_cons, List.map_nil]; rfl) ?_
     with_reducible refine HRC.out.mono ?_
     rintro e wd4 ⟨v26, rfl, hr_, hb_⟩
     refine ⟨_, rfl, ?_⟩
     have HD4 := Aside0.mk ((HD3.out).row_new hr_ hb_)
     clear hr_ hb_
     refine hK.out _ _ ⟨za1 (za7 BK0.out (HD4.out).bel) 0, za1 (za7 BK0.out (HD4.out).bel) 1⟩ (fun hHeld => ?_)
     clear hK K
     refine norm_ (a' := ?_) ?_ ?_
     rotate_left
     ·show Act.put _ (some 26) _ = _
      simp only [Act.put, sa_, sb_, sc_, i64_w, i32_w]
      rfl
     exact norm_ (by simp only [putAll, Act.put, sa_, sb_, sc_]) (hCont (v19, v26, g4, g5) _ (Fr.pick HD4.out [0, 1, 2, 4] (by decide) (by simp)))
  ·skip
   refine box_step ?hg (N := 4) ?hd (cs := #[.int .i64 0, .slice none 0 0, .slice none 0 0]) (t := 36) ?hr ?_; (case hd => rfl); (case hg => rfl); (case hr => first | (go_simp; done) | (go_simp; rfl))
   intro g4 hg_ wd1 hbox_ hb_; have HD1 := Aside0.mk ((H1.out.drew).zb6 hbox_ hb_ hg_); clear hbox_ hb_ hg_
   refine hK.out _ _ ⟨za1 (za7 BK0.out (HD1.out).bel) 0, za1 (za7 BK0.out (HD1.out).bel) 1⟩ (fun hHeld => ?_)
   clear hK K
   refine norm_ (a' := ?_) ?_ ?_
   rotate_left
   ·show Act.put _ (some 4) _ = _
    simp only [Act.put, sa_, sb_, sc_, i64_w, i32_w]
    rfl
   refine two_ (i := 6) (j := 15) (Ni := some 19) (Nj := some 5) #[true, true, true, true, true, true, true, true, true, true, true, true, true, false, true, false, false, false] #[true, true, true, true, true, true, false, true, true, true, true, true, true, false, true, true, false, false] rfl rfl rfl rfl (by kernel_rfl) (by decide) (by decide) (fun K hK => ?_) (fun K hK => ?_)
   ·skip
    refine Kd.R_lit_step (Kd.int .i64) (w0 := w) w.heap.size 3 ?hg (N := 19) ?hd (xs := ([-1] : List Int)) (inner := [.int .i64 (-1)]) (ok := fun k => wd1.heap.size ≤ k) (okp := fun k => wd1.heap.size ≤ k) ?hr ?hp (fun _ hk => hk) (Nat.le_refl _) (HD1.out).bel (HD1.out).size (by simp) ?_; (case hd => rfl); (case hg => rfl); (case hr => first | (go_simp; done) | (go_simp; rfl)); (case hp => exact (Reps.one (show Kd.M (Kd.int .i64) _ _ _ (-1) [.int .i64 (-1)] from rfl) (Reps.none _ _)))
    intro v19 wd2 hr_ hb_ hg_ hn_; have HD2 := Aside0.mk ((HD1.out).row_lit hr_ hg_); clear hb_ hg_ hn_; clear hr_
    refine hK.out _ _ ⟨za1 (za7 BK0.out (HD2.out).bel) 0, za1 (za7 BK0.out (HD2.out).bel) 1⟩ (fun hHeld => ?_)
    clear hK K
    refine norm_ (a' := ?_) ?_ ?_
    rotate_left
    ·show Act.put _ (some 19) _ = _
     simp only [Act.put, sa_, sb_, sc_, i64_w, i32_w]
     rfl
    refine two_ (i := 13) (j := 15) (Ni := some 26) (Nj := some 5) #[true, true, true, true, true, true, true, true, true, true, true, true, true, true, true, false, false, false] #[true, true, true, true, true, true, true, true, true, true, true, true, true, false, true, true, false, false] rfl rfl rfl rfl (by kernel_rfl) (by decide) (by decide) (fun K hK => ?_) (fun K hK => ?_)
    ·skip
     obtain ⟨A9, c9, e9, hc9, hC9⟩ := (HD2.out).row_reads (i := 0) rfl
     have HRC := Aside0.mk (HRP.out A9 c9 _ hC9 hc9)
     rw [show (Value.slice A9 ([-1] : List Int).length c9) = v19 from e9.symm] at HRC
     clear hC9 hc9 e9
     refine goes_ Try.func118 (by kernel_rfl) rfl #[v19, .int .i64 (n : Int)] (by rfl) rfl rfl (by simp only [List.map_toArray, List.map_cons, List.map_nil]; rfl) ?_
     with_reducible refine HRC.out.mono ?_
     rintro e wd3 ⟨v26, rfl, hr_, hb_⟩
     refine ⟨_, rfl, ?_⟩
     have HD3 := Aside0.mk ((HD2.out).row_new hr_ hb_)
     clear hr_ hb_
     refine hK.out _ _ ⟨za1 (za7 BK0.out (HD3.out).bel) 0, za1 (za7 BK0.out (HD3.out).bel) 1⟩ (fun hHeld => ?_)
     clear hK K
     refine norm_ (a' := ?_) ?_ ?_
     rotate_left
     ·show Act.put _ (some 26) _ = _
      simp only [Act.put, sa_, sb_, sc_, i64_w, i32_w]
      rfl
     refine one_ (i := 15) (N := some 5) #[true, true, true, true, true, true, true, true, true, true, true, true, true, true, true, true, false, false] rfl rfl (by kernel_rfl) (by decide) (fun K hK => ?_)
     refine box_step ?hg (N := 5) ?hd (cs := #[.slice none 0 0]) (t := 22) ?hr ?_; (case hd => rfl); (case hg => rfl); (case hr => first | (go_simp; done) | (go_simp; rfl))
     intro g5 hg_ wd4 hbox_ hb_; have HD4 := Aside0.mk ((HD3.out).zb6 hbox_ hb_ hg_); clear hbox_ hb_ hg_
     refine hK.out _ _ ⟨za1 (za7 BK0.out (HD4.out).bel) 0, za1 (za7 BK0.out (HD4.out).bel) 1⟩ (fun hHeld => ?_)
     clear hK K
     refine norm_ (a' := ?_) ?_ ?_
     rotate_left
     ·show Act.put _ (some 5) _ = _
      simp only [Act.put, sa_, sb_, sc_, i64_w, i32_w]
      rfl
     exact norm_ (by simp only [putAll, Act.put, sa_, sb_, sc_]) (hCont (v19, v26, g4, g5) _ (Fr.pick HD4.out [1, 3, 0, 4] (by decide) (by simp)))
    ·skip
     refine box_step ?hg (N := 5) ?hd (cs := #[.slice none 0 0]) (t := 22) ?hr ?_; (case hd => rfl); (case hg => rfl); (case hr => first | (go_simp; done) | (go_simp; rfl))
     intro g5 hg_ wd3 hbox_ hb_; have HD3 := Aside0.mk ((HD2.out).zb6 hbox_ hb_ hg_); clear hbox_ hb_ hg_
     refine hK.out _ _ ⟨za1 (za7 BK0.out (HD3.out).bel) 0, za1 (za7 BK0.out (HD3.out).bel) 1⟩ (fun hHeld => ?_)
     clear hK K
     refine norm_ (a' := ?_) ?_ ?_
     rotate_left
     ·show Act.put _ (some 5) _ = _
      simp only [Act.put, sa_, sb_, sc_, i64_w, i32_w]
      rfl
     refine one_ (i := 13) (N := some 26) #[true, true, true, true, true, true, true, true, true, true, true, true, true, true, true, true, false, false] rfl rfl (by kernel_rfl) (by decide) (fun K hK => ?_)
     obtain ⟨A9, c9, e9, hc9, hC9⟩ := (HD3.out).row_reads (i := 1) rfl
     have HRC := Aside0.mk (HRP.out A9 c9 _ hC9 hc9)
     rw [show (Value.slice A9 ([-1] : List Int).length c9) = v19 from e9.symm] at HRC
     clear hC9 hc9 e9
     refine goes_ Try.func118 (by kernel_rfl) rfl #[v19, .int .i64 (n : Int)] (by rfl) rfl rfl (by simp only [List.map_toArray, List.map_cons, List.map_nil]; rfl) ?_
     with_reducible refine HRC.out.mono ?_
     rintro e wd4 ⟨v26, rfl, hr_, hb_⟩
     refine ⟨_, rfl, ?_⟩
     have HD4 := Aside0.mk ((HD3.out).row_new hr_ hb_)
     clear hr_ hb_
     refine hK.out _ _ ⟨za1 (za7 BK0.out (HD4.out).bel) 0, za1 (za7 BK0.out (HD4.out).bel) 1⟩ (fun hHeld => ?_)
     clear hK K
     refine norm_ (a' := ?_) ?_ ?_
     rotate_left
     ·show Act.put _ (some 26) _ = _
      simp only [Act.put, sa_, sb_, sc_, i64_w, i32_w]
      rfl
     exact norm_ (by simp only [putAll, Act.put, sa_, sb_, sc_]) (hCont (v19, v26, g4, g5) _ (Fr.pick HD4.out [0, 3, 1, 4] (by decide) (by simp)))
   ·skip
    refine box_step ?hg (N := 5) ?hd (cs := #[.slice none 0 0]) (t := 22) ?hr ?_; (case hd => rfl); (case hg => rfl); (case hr => first | (go_simp; done) | (go_simp; rfl))
    intro g5 hg_ wd2 hbox_ hb_; have HD2 := Aside0.mk ((HD1.out).zb6 hbox_ hb_ hg_); clear hbox_ hb_ hg_
    refine hK.out _ _ ⟨za1 (za7 BK0.out (HD2.out).bel) 0, za1 (za7 BK0.out (HD2.out).bel) 1⟩ (fun hHeld => ?_)
    clear hK K
    refine norm_ (a' := ?_) ?_ ?_
    rotate_left
    ·show Act.put _ (some 5) _ = _
     simp only [Act.put, sa_, sb_, sc_, i64_w, i32_w]
     rfl
    refine one_ (i := 6) (N := some 19) #[true, true, true, true, true, true, true, true, true, true, true, true, true, false, true, true, false, false] rfl rfl (by kernel_rfl) (by decide) (fun K hK => ?_)
    refine Kd.R_lit_step (Kd.int .i64) (w0 := w) w.heap.size 3 ?hg (N := 19) ?hd (xs := ([-1] : List Int)) (inner := [.int .i64 (-1)]) (ok := fun k => wd2.heap.size ≤ k) (okp := fun k => wd2.heap.size ≤ k) ?hr ?hp (fun _ hk => hk) (Nat.le_refl _) (HD2.out).bel (HD2.out).size (by simp) ?_; (case hd => rfl); (case hg => rfl); (case hr => first | (go_simp; done) | (go_simp; rfl)); (case hp => exact (Reps.one (show Kd.M (Kd.int .i64) _ _ _ (-1) [.int .i64 (-1)] from rfl) (Reps.none _ _)))
    intro v19 wd3 hr_ hb_ hg_ hn_; have HD3 := Aside0.mk ((HD2.out).row_lit hr_ hg_); clear hb_ hg_ hn_; clear hr_
    refine hK.out _ _ ⟨za1 (za7 BK0.out (HD3.out).bel) 0, za1 (za7 BK0.out (HD3.out).bel) 1⟩ (fun hHeld => ?_)
    clear hK K
    refine norm_ (a' := ?_) ?_ ?_
    rotate_left
    ·show Act.put _ (some 19) _ = _
     simp only [Act.put, sa_, sb_, sc_, i64_w, i32_w]
     rfl
    refine one_ (i := 13) (N := some 26) #[true, true, true, true, true, true, true, true, true, true, true, true, true, true, true, true, false, false] rfl rfl (by kernel_rfl) (by decide) (fun K hK => ?_)
    obtain ⟨A9, c9, e9, hc9, hC9⟩ := (HD3.out).row_reads (i := 0) rfl
    have HRC := Aside0.mk (HRP.out A9 c9 _ hC9 hc9)
    rw [show (Value.slice A9 ([-1] : List Int).length c9) = v19 from e9.symm] at HRC
    clear hC9 hc9 e9
    refine goes_ Try.func118 (by kernel_rfl) rfl #[v19, .int .i64 (n : Int)] (by rfl) rfl rfl (by simp only [List.map_toArray, List.map_cons, List.map_nil]; rfl) ?_
    with_reducible refine HRC.out.mono ?_
    rintro e wd4 ⟨v26, rfl, hr_, hb_⟩
    refine ⟨_, rfl, ?_⟩
    have HD4 := Aside0.mk ((HD3.out).row_new hr_ hb_)
    clear hr_ hb_
    refine hK.out _ _ ⟨za1 (za7 BK0.out (HD4.out).bel) 0, za1 (za7 BK0.out (HD4.out).bel) 1⟩ (fun hHeld => ?_)
    clear hK K
    refine norm_ (a' := ?_) ?_ ?_
    rotate_left
    ·show Act.put _ (some 26) _ = _
     simp only [Act.put, sa_, sb_, sc_, i64_w, i32_w]
     rfl
    exact norm_ (by simp only [putAll, Act.put, sa_, sb_, sc_]) (hCont (v19, v26, g4, g5) _ (Fr.pick HD4.out [0, 3, 2, 4] (by decide) (by simp)))
  ·skip
   refine box_step ?hg (N := 5) ?hd (cs := #[.slice none 0 0]) (t := 22) ?hr ?_; (case hd => rfl); (case hg => rfl); (case hr => first | (go_simp; done) | (go_simp; rfl))
   intro g5 hg_ wd1 hbox_ hb_; have HD1 := Aside0.mk ((H1.out.drew).zb6 hbox_ hb_ hg_); clear hbox_ hb_ hg_
   refine hK.out _ _ ⟨za1 (za7 BK0.out (HD1.out).bel) 0, za1 (za7 BK0.out (HD1.out).bel) 1⟩ (fun hHeld => ?_)
   clear hK K
   refine norm_ (a' := ?_) ?_ ?_
   rotate_left
   ·show Act.put _ (some 5) _ = _
    simp only [Act.put, sa_, sb_, sc_, i64_w, i32_w]
    rfl
   refine two_ (i := 6) (j := 14) (Ni := some 19) (Nj := some 4) #[true, true, true, true, true, true, true, true, true, true, true, true, true, false, false, true, false, false] #[true, true, true, true, true, true, false, true, true, true, true, true, true, false, true, true, false, false] rfl rfl rfl rfl (by kernel_rfl) (by decide) (by decide) (fun K hK => ?_) (fun K hK => ?_)
   ·skip
    refine Kd.R_lit_step (Kd.int .i64) (w0 := w) w.heap.size 3 ?hg (N := 19) ?hd (xs := ([-1] : List Int)) (inner := [.int .i64 (-1)]) (ok := fun k => wd1.heap.size ≤ k) (okp := fun k => wd1.heap.size ≤ k) ?hr ?hp (fun _ hk => hk) (Nat.le_refl _) (HD1.out).bel (HD1.out).size (by simp) ?_; (case hd => rfl); (case hg => rfl); (case hr => first | (go_simp; done) | (go_simp; rfl)); (case hp => exact (Reps.one (show Kd.M (Kd.int .i64) _ _ _ (-1) [.int .i64 (-1)] from rfl) (Reps.none _ _)))
    intro v19 wd2 hr_ hb_ hg_ hn_; have HD2 := Aside0.mk ((HD1.out).row_lit hr_ hg_); clear hb_ hg_ hn_; clear hr_
    refine hK.out _ _ ⟨za1 (za7 BK0.out (HD2.out).bel) 0, za1 (za7 BK0.out (HD2.out).bel) 1⟩ (fun hHeld => ?_)
    clear hK K
    refine norm_ (a' := ?_) ?_ ?_
    rotate_left
    ·show Act.put _ (some 19) _ = _
     simp only [Act.put, sa_, sb_, sc_, i64_w, i32_w]
     rfl
    refine two_ (i := 13) (j := 14) (Ni := some 26) (Nj := some 4) #[true, true, true, true, true, true, true, true, true, true, true, true, true, true, false, true, false, false] #[true, true, true, true, true, true, true, true, true, true, true, true, true, false, true, true, false, false] rfl rfl rfl rfl (by kernel_rfl) (by decide) (by decide) (fun K hK => ?_) (fun K hK => ?_)
    ·skip
     obtain ⟨A9, c9, e9, hc9, hC9⟩ := (HD2.out).row_reads (i := 0) rfl
     have HRC := Aside0.mk (HRP.out A9 c9 _ hC9 hc9)
     rw [show (Value.slice A9 ([-1] : List Int).length c9) = v19 from e9.symm] at HRC
     clear hC9 hc9 e9
     refine goes_ Try.func118 (by kernel_rfl) rfl #[v19, .int .i64 (n : Int)] (by rfl) rfl rfl (by simp only [List.map_toArray, List.map_cons, List.map_nil]; rfl) ?_
     with_reducible refine HRC.out.mono ?_
     rintro e wd3 ⟨v26, rfl, hr_, hb_⟩
     refine ⟨_, rfl, ?_⟩
     have HD3 := Aside0.mk ((HD2.out).row_new hr_ hb_)
     clear hr_ hb_
     refine hK.out _ _ ⟨za1 (za7 BK0.out (HD3.out).bel) 0, za1 (za7 BK0.out (HD3.out).bel) 1⟩ (fun hHeld => ?_)
     clear hK K
     refine norm_ (a' := ?_) ?_ ?_
     rotate_left
     ·show Act.put _ (some 26) _ = _
      simp only [Act.put, sa_, sb_, sc_, i64_w, i32_w]
      rfl
     refine one_ (i := 14) (N := some 4) #[true, true, true, true, true, true, true, true, true, true, true, true, true, true, true, true, false, false] rfl rfl (by kernel_rfl) (by decide) (fun K hK => ?_)
     refine box_step ?hg (N := 4) ?hd (cs := #[.int .i64 0, .slice none 0 0, .slice none 0 0]) (t := 36) ?hr ?_; (case hd => rfl); (case hg => rfl); (case hr => first | (go_simp; done) | (go_simp; rfl))
     intro g4 hg_ wd4 hbox_ hb_; have HD4 := Aside0.mk ((HD3.out).zb6 hbox_ hb_ hg_); clear hbox_ hb_ hg_
     refine hK.out _ _ ⟨za1 (za7 BK0.out (HD4.out).bel) 0, za1 (za7 BK0.out (HD4.out).bel) 1⟩ (fun hHeld => ?_)
     clear hK K
     refine norm_ (a' := ?_) ?_ ?_
     rotate_left
     ·show Act.put _ (some 4) _ = _
      simp only [Act.put, sa_, sb_, sc_, i64_w, i32_w]
      rfl
     exact norm_ (by simp only [putAll, Act.put, sa_, sb_, sc_]) (hCont (v19, v26, g4, g5) _ (Fr.pick HD4.out [1, 0, 3, 4] (by decide) (by simp)))
    ·skip
     refine box_step ?hg (N := 4) ?hd (cs := #[.int .i64 0, .slice none 0 0, .slice none 0 0]) (t := 36) ?hr ?_; (case hd => rfl); (case hg => rfl); (case hr => first | (go_simp; done) | (go_simp; rfl))
     intro g4 hg_ wd3 hbox_ hb_; have HD3 := Aside0.mk ((HD2.out).zb6 hbox_ hb_ hg_); clear hbox_ hb_ hg_
     refine hK.out _ _ ⟨za1 (za7 BK0.out (HD3.out).bel) 0, za1 (za7 BK0.out (HD3.out).bel) 1⟩ (fun hHeld => ?_)
     clear hK K
     refine norm_ (a' := ?_) ?_ ?_
     rotate_left
     ·show Act.put _ (some 4) _ = _
      simp only [Act.put, sa_, sb_, sc_, i64_w, i32_w]
      rfl
     refine one_ (i := 13) (N := some 26) #[true, true, true, true, true, true, true, true, true, true, true, true, true, true, true, true, false, false] rfl rfl (by kernel_rfl) (by decide) (fun K hK => ?_)
     obtain ⟨A9, c9, e9, hc9, hC9⟩ := (HD3.out).row_reads (i := 1) rfl
     have HRC := Aside0.mk (HRP.out A9 c9 _ hC9 hc9)
     rw [show (Value.slice A9 ([-1] : List Int).length c9) = v19 from e9.symm] at HRC
     clear hC9 hc9 e9
     refine goes_ Try.func118 (by kernel_rfl) rfl #[v19, .int .i64 (n : Int)] (by rfl) rfl rfl (by simp only [List.map_toArray, List.map_cons, List.map_nil]; rfl) ?_
     with_reducible refine HRC.out.mono ?_
     rintro e wd4 ⟨v26, rfl, hr_, hb_⟩
     refine ⟨_, rfl, ?_⟩
     have HD4 := Aside0.mk ((HD3.out).row_new hr_ hb_)
     clear hr_ hb_
     refine hK.out _ _ ⟨za1 (za7 BK0.out (HD4.out).bel) 0, za1 (za7 BK0.out (HD4.out).bel) 1⟩ (fun hHeld => ?_)
     clear hK K
     refine norm_ (a' := ?_) ?_ ?_
     rotate_left
     ·show Act.put _ (some 26) _ = _
      simp only [Act.put, sa_, sb_, sc_, i64_w, i32_w]
      rfl
     exact norm_ (by simp only [putAll, Act.put, sa_, sb_, sc_]) (hCont (v19, v26, g4, g5) _ (Fr.pick HD4.out [0, 1, 3, 4] (by decide) (by simp)))
   ·skip
    refine box_step ?hg (N := 4) ?hd (cs := #[.int .i64 0, .slice none 0 0, .slice none 0 0]) (t := 36) ?hr ?_; (case hd => rfl); (case hg => rfl); (case hr => first | (go_simp; done) | (go_simp; rfl))
    intro g4 hg_ wd2 hbox_ hb_; have HD2 := Aside0.mk ((HD1.out).zb6 hbox_ hb_ hg_); clear hbox_ hb_ hg_
    refine hK.out _ _ ⟨za1 (za7 BK0.out (HD2.out).bel) 0, za1 (za7 BK0.out (HD2.out).bel) 1⟩ (fun hHeld => ?_)
    clear hK K
    refine norm_ (a' := ?_) ?_ ?_
    rotate_left
    ·show Act.put _ (some 4) _ = _
     simp only [Act.put, sa_, sb_, sc_, i64_w, i32_w]
     rfl
    refine one_ (i := 6) (N := some 19) #[true, true, true, true, true, true, true, true, true, true, true, true, true, false, true, true, false, false] rfl rfl (by kernel_rfl) (by decide) (fun K hK => ?_)
    refine Kd.R_lit_step (Kd.int .i64) (w0 := w) w.heap.size 3 ?hg (N := 19) ?hd (xs := ([-1] : List Int)) (inner := [.int .i64 (-1)]) (ok := fun k => wd2.heap.size ≤ k) (okp := fun k => wd2.heap.size ≤ k) ?hr ?hp (fun _ hk => hk) (Nat.le_refl _) (HD2.out).bel (HD2.out).size (by simp) ?_; (case hd => rfl); (case hg => rfl); (case hr => first | (go_simp; done) | (go_simp; rfl)); (case hp => exact (Reps.one (show Kd.M (Kd.int .i64) _ _ _ (-1) [.int .i64 (-1)] from rfl) (Reps.none _ _)))
    intro v19 wd3 hr_ hb_ hg_ hn_; have HD3 := Aside0.mk ((HD2.out).row_lit hr_ hg_); clear hb_ hg_ hn_; clear hr_
    refine hK.out _ _ ⟨za1 (za7 BK0.out (HD3.out).bel) 0, za1 (za7 BK0.out (HD3.out).bel) 1⟩ (fun hHeld => ?_)
    clear hK K
    refine norm_ (a' := ?_) ?_ ?_
    rotate_left
    ·show Act.put _ (some 19) _ = _
     simp only [Act.put, sa_, sb_, sc_, i64_w, i32_w]
     rfl
    refine one_ (i := 13) (N := some 26) #[true, true, true, true, true, true, true, true, true, true, true, true, true, true, true, true, false, false] rfl rfl (by kernel_rfl) (by decide) (fun K hK => ?_)
    obtain ⟨A9, c9, e9, hc9, hC9⟩ := (HD3.out).row_reads (i := 0) rfl
    have HRC := Aside0.mk (HRP.out A9 c9 _ hC9 hc9)
    rw [show (Value.slice A9 ([-1] : List Int).length c9) = v19 from e9.symm] at HRC
    clear hC9 hc9 e9
    refine goes_ Try.func118 (by kernel_rfl) rfl #[v19, .int .i64 (n : Int)] (by rfl) rfl rfl (by simp only [List.map_toArray, List.map_cons, List.map_nil]; rfl) ?_
    with_reducible refine HRC.out.mono ?_
    rintro e wd4 ⟨v26, rfl, hr_, hb_⟩
    refine ⟨_, rfl, ?_⟩
    have HD4 := Aside0.mk ((HD3.out).row_new hr_ hb_)
    clear hr_ hb_
    refine hK.out _ _ ⟨za1 (za7 BK0.out (HD4.out).bel) 0, za1 (za7 BK0.out (HD4.out).bel) 1⟩ (fun hHeld => ?_)
    clear hK K
    refine norm_ (a' := ?_) ?_ ?_
    rotate_left
    ·show Act.put _ (some 26) _ = _
     simp only [Act.put, sa_, sb_, sc_, i64_w, i32_w]
     rfl
    exact norm_ (by simp only [putAll, Act.put, sa_, sb_, sc_]) (hCont (v19, v26, g4, g5) _ (Fr.pick HD4.out [0, 2, 3, 4] (by decide) (by simp)))
 rintro ⟨v19, v26, g4, g5⟩ w2 h_
 have H2 := Aside0.mk (show Fr w w (fun _ => False) [row (Kd.int .i64) 3 v26 (List.replicate n (-1)), box g4 36 #[.int .i64 0, .slice none 0 0, .slice none 0 0], box g5 22 #[.slice none 0 0], box g2 36 #[.int .i64 0, .slice none 0 0, .slice none 0 0]] w2 from h_)
 clear h_
 refine norm_ (a' := ?_) ?_ ?_
 rotate_left
 ·simp only [putAll, Act.put, sa_, sb_, sc_]
  rfl
 refine last_ (i := 16) (N := none) #[true, true, true, true, true, true, true, true, true, true, true, true, true, true, true, true, true, false] rfl rfl (by kernel_rfl) (by decide) (fun K hK => ?_)
 have s4_0 : w2.cell? ⟨g4, 0, none⟩ = some (.int .i64 0) := H2.out.za5 (i := 1) rfl 0 rfl
 have s4_1 : w2.cell? ⟨g4, 1, none⟩ = some (.slice none 0 0) := H2.out.za5 (i := 1) rfl 1 rfl
 have s4_2 : w2.cell? ⟨g4, 2, none⟩ = some (.slice none 0 0) := H2.out.za5 (i := 1) rfl 2 rfl
 have q4_0 := za0 (H2.out.zai (i := 1) rfl) 0
 have q4_1 := za0 (H2.out.zai (i := 1) rfl) 1
 have q4_2 := za0 (H2.out.zai (i := 1) rfl) 2
 refine skip_ (w1 := ?_) (by rfl) rfl ?_ ?_
 rotate_left
 ·go_simp
  rfl
 refine hK.out _ _ ?_
 clear hK K
 refine last_ (i := 17) (N := none) #[true, true, true, true, true, true, true, true, true, true, true, true, true, true, true, true, true, true] rfl rfl (by kernel_rfl) (by decide) (fun K hK => ?_)
 have h3 := ((H2.out.zas (i := 1) rfl 0 (.int .i64 (l1.length : Int)) rfl).zas (i := 1) rfl 1 (.slice none 0 0) rfl).zas (i := 1) rfl 2 (.slice none 0 0) rfl
 simp only [List.set_cons_succ, List.set_cons_zero] at h3
 generalize ((w2.setCell ⟨g4, 0, none⟩ (.int .i64 (l1.length : Int))).setCell ⟨g4, 1, none⟩ (.slice none 0 0)).setCell ⟨g4, 2, none⟩ (.slice none 0 0) = w3 at h3 ⊢
 have H3 := Aside0.mk h3
 clear h3
 obtain ⟨A26, c26, e26, _, _⟩ := H3.out.row_reads (i := 0) rfl
 rw [List.length_replicate] at e26
 subst e26
 have s5_0 : w3.cell? ⟨g5, 0, none⟩ = some (.slice none 0 0) := H3.out.za5 (i := 2) rfl 0 rfl
 have q5_0 := za0 (H3.out.zai (i := 2) rfl) 0
 refine skip_ (w1 := ?_) (by rfl) rfl ?_ ?_
 rotate_left
 ·go_simp
  rfl
 refine hK.out _ _ ?_
 clear hK K
 refine done_ (by kernel_rfl) ?_
 have h4 := H3.out.zas (i := 2) rfl 0 (.slice A26 n c26) rfl
 simp only [List.set_cons_succ, List.set_cons_zero] at h4
 generalize w3.setCell ⟨g5, 0, none⟩ (.slice A26 n c26) = w4 at h4 ⊢
 have H4 := Aside0.mk (show Fr w w (fun _ => False) [row (Kd.int .i64) 3 (.slice A26 n c26) (List.replicate n (-1)), box g4 36 #[.int .i64 (l1.length : Int), .slice none 0 0, .slice none 0 0], box g5 22 #[.slice A26 n c26], box g2 36 #[.int .i64 0, .slice none 0 0, .slice none 0 0]] w4 from h4)
 clear h4 hHeld H3 H2 H1 b0 b1 s4_0 s4_1 s4_2 q4_0 q4_1 q4_2 s5_0 q5_0 HRP hm0 hmx
 have b1 : w4.cell? ⟨g0, 1, none⟩ = some (.slice A1 l1.length c1) := za1 (za7 BK0.out (H4.out).bel) 1
 go_wp2_with fail
 clear b1
 go_loopg [33] l1.length (fun d v33 w' => ∃ (j : Nat) (s : List Int), v33 = .int .i64 (j : Int) ∧ Aside0 (rdA a0 n l1 l2 l3 d j s = (r1, r2, r3, r4)) ∧ Aside0 (j + d = l1.length ∧ s.length = n) ∧ Aside0 (Fr w w (fun _ => False) [row (Kd.int .i64) 3 (.slice A26 n c26) s, box g4 36 #[.int .i64 (l1.length : Int), .slice none 0 0, .slice none 0 0], box g5 22 #[.slice A26 n c26], box g2 36 #[.int .i64 0, .slice none 0 0, .slice none 0 0]] w'))
 case atStart => exact ⟨0, _, rfl, HE0, ⟨by simp⟩, H4⟩
 case round =>
  obtain ⟨j, s, rfl, HE, HM, H⟩ := hrel
  clear HE0 H4
  cases gk with
  | succ d =>
   have hm := HM.out
   have hl_ := HL1.out
   have c0_ : decide ((j : Int) < (l1.length : Int)) = true := decide_eq_true (by omega)
   have c1_ : decide (j < l1.length) = true := decide_eq_true (by omega)
   have q1 : ((j : Int) < (l1.length : Int)) = True := eq_true (by omega)
   have q2 : (j < l1.length) = True := eq_true (by omega)
   have hw1 : wrap64 ((j : Int) + 1) = (j : Int) + 1 := by unfold wrap64; omega
   obtain ⟨ad1, e1, hx⟩ := Kd.at_int (Kd.zac HC1.out H.out.bel) (j : Int) (by omega) (by omega)
   cases e1
   rw [Int.toNat_natCast] at hx
   have he := HE.out
   simp only [rdA] at he
   obtain ⟨r, hr⟩ : ∃ r, rd l1 (j : Int) = r := ⟨_, rfl⟩
   rw [hr] at he hx
   clear hr hm hl_ HE
   cases hb : hasB n r with
   | false =>
    rw [if_neg (by simp [hb])] at he
    have HF := Aside0.mk he
    clear he
    go_wp2_with (go_at_call 170; refine (read1_calls g5 22 n c26 _ _ _ (by have := HNN.out; omega) (H.out.zai (i := 2) rfl)).mono ?_; rintro e wh ⟨rfl, hb_⟩; have H_ := Aside0.mk (H.out.below hb_); clear hb_ H; have H := H_; clear H_; have s2_0 : wh.cell? ⟨g2, 0, none⟩ = some (.int .i64 0) := (H.out).za5 (i := 3) rfl 0 rfl; have f2_0 := za0 ((H.out).zai (i := 3) rfl) 0; have s2_1 : wh.cell? ⟨g2, 1, none⟩ = some (.slice none 0 0) := (H.out).za5 (i := 3) rfl 1 rfl; have f2_1 := za0 ((H.out).zai (i := 3) rfl) 1; have s2_2 : wh.cell? ⟨g2, 2, none⟩ = some (.slice none 0 0) := (H.out).za5 (i := 3) rfl 2 rfl; have f2_2 := za0 ((H.out).zai (i := 3) rfl) 2)
    have h4 := (((H.out).zas (i := 3) rfl 0 (.int .i64 0) rfl).zas (i := 3) rfl 1 (.slice none 0 0) rfl).zas (i := 3) rfl 2 (.slice none 0 0) rfl
    refine bodyPost_ret (results_ct rfl _ _ g2 36 #[.int .i64 0, .slice none 0 0, .slice none 0 0] (0, 0) _ rfl (h4.zai (i := 3) rfl) Try.underlying36 rfl (by kernel_rfl)) rfl ?_
    obtain ⟨rfl, rfl, rfl, rfl⟩ : r1 = 0 ∧ r2 = [] ∧ r3 = [] ∧ r4 = false := by have h9 := HF.out; simp only [Prod.mk.injEq] at h9; exact ⟨h9.1.symm, h9.2.1.symm, h9.2.2.1.symm, h9.2.2.2.symm⟩
    exact ⟨_, _, rfl, Kd.R_nil _ _ _ _ _, Kd.R_nil _ _ _ _ _, h4.bel⟩
   | true =>
    obtain ⟨gI, cI, e26⟩ := H.out.row_head (i := 0) rfl (by have := zal hb; have := HM.out; omega)
    injection e26 with e26a e26n e26b
    clear e26n
    subst e26a
    subst e26b
    have p1 : (0 ≤ r) = True := eq_true (zal hb).1
    have p2 : (r < (n : Int)) = True := eq_true (zal hb).2
    have HBz1 := Aside0.mk hb
    by_cases hv : rd s r = -1
    ·rw [if_pos ⟨hb, hv⟩] at he
     have HE := Aside0.mk he
     have cB : (rd s r != -1) = false := by simp [hv]
     clear he hv
     go_wp2_with (go_at_call 170; refine (read1_calls g5 22 n c26 _ _ _ (by have := HNN.out; omega) (H.out.zai (i := 2) rfl)).mono ?_; rintro e wh ⟨rfl, hb_⟩; have H_ := Aside0.mk (H.out.below hb_); clear hb_ H; have H := H_; clear H_; have y5 : wh.cell? ⟨g5, 0, none⟩ = some (.slice (some ⟨gI, 0, none⟩) n c26) := (H.out).za5 (i := 2) rfl 0 rfl; have z1 := (H.out.zb0 (i := 0) rfl r (zal HBz1.out).1 (zal HBz1.out).2).1; have z1f := (H.out.zb0 (i := 0) rfl r (zal HBz1.out).1 (zal HBz1.out).2).2)
     have h9 := H.out.int_set (i := 0) rfl r (j : Int)
     simp only [List.set_cons_succ, List.set_cons_zero] at h9
     go_roundg d
     case measure => omega
     case rel => exact ⟨j + 1, _, by go_num, HE, ⟨by have := HM.out; rw [List.length_set]; omega⟩, ⟨h9⟩⟩
    ·rw [if_neg (fun h => hv h.2)] at he
     have HF := Aside0.mk he
     have cB : (rd s r != -1) = true := by simp [hv]
     clear he hv
     go_wp2_with (go_at_call 170; refine (read1_calls g5 22 n c26 _ _ _ (by have := HNN.out; omega) (H.out.zai (i := 2) rfl)).mono ?_; rintro e wh ⟨rfl, hb_⟩; have H_ := Aside0.mk (H.out.below hb_); clear hb_ H; have H := H_; clear H_; have y5 : wh.cell? ⟨g5, 0, none⟩ = some (.slice (some ⟨gI, 0, none⟩) n c26) := (H.out).za5 (i := 2) rfl 0 rfl; have z1 := (H.out.zb0 (i := 0) rfl r (zal HBz1.out).1 (zal HBz1.out).2).1; have z1f := (H.out.zb0 (i := 0) rfl r (zal HBz1.out).1 (zal HBz1.out).2).2; have s2_0 : wh.cell? ⟨g2, 0, none⟩ = some (.int .i64 0) := (H.out).za5 (i := 3) rfl 0 rfl; have f2_0 := za0 ((H.out).zai (i := 3) rfl) 0; have s2_1 : wh.cell? ⟨g2, 1, none⟩ = some (.slice none 0 0) := (H.out).za5 (i := 3) rfl 1 rfl; have f2_1 := za0 ((H.out).zai (i := 3) rfl) 1; have s2_2 : wh.cell? ⟨g2, 2, none⟩ = some (.slice none 0 0) := (H.out).za5 (i := 3) rfl 2 rfl; have f2_2 := za0 ((H.out).zai (i := 3) rfl) 2)
     have h4 := (((H.out).zas (i := 3) rfl 0 (.int .i64 0) rfl).zas (i := 3) rfl 1 (.slice none 0 0) rfl).zas (i := 3) rfl 2 (.slice none 0 0) rfl
     refine bodyPost_ret (results_ct rfl _ _ g2 36 #[.int .i64 0, .slice none 0 0, .slice none 0 0] (0, 0) _ rfl (h4.zai (i := 3) rfl) Try.underlying36 rfl (by kernel_rfl)) rfl ?_
     obtain ⟨rfl, rfl, rfl, rfl⟩ : r1 = 0 ∧ r2 = [] ∧ r3 = [] ∧ r4 = false := by have h9 := HF.out; simp only [Prod.mk.injEq] at h9; exact ⟨h9.1.symm, h9.2.1.symm, h9.2.2.1.symm, h9.2.2.2.symm⟩
     exact ⟨_, _, rfl, Kd.R_nil _ _ _ _ _, Kd.R_nil _ _ _ _ _, h4.bel⟩
  | zero =>
   have hm := HM.out
   have c0_ : decide ((j : Int) < (l1.length : Int)) = false := decide_eq_false (by omega)
   have c1_ : decide (j < l1.length) = false := decide_eq_false (by omega)
   clear hm
   have he := HE.out
   simp only [rdA] at he
   have HE0 := Aside0.mk he
   have H5 := Aside0.mk (H.out.row_nil k117 117)
   have HS0 := Aside0.mk HM.out.2
   clear he HE HM H
   have b2 : wr.cell? ⟨g0, 2, none⟩ = some (.slice A2 l2.length c2) := za1 (za7 BK0.out (H5.out).bel) 2
   go_wp2_with fail
   clear b2
   go_loopg [60] l2.length (fun d v60 w' => ∃ (j : Nat) (s : List Int) (st : List S117) (As : Option Addr) (cs : Nat), v60 = .int .i64 (j : Int) ∧ Aside0 (rdB a0 n l1.length l2 l3 d j s st = (r1, r2, r3, r4)) ∧ Aside0 (j + d = l2.length ∧ s.length = n ∧ st.length = j) ∧ Aside0 (Fr w w (fun _ => False) [row k117 117 (.slice As st.length cs) st, row (Kd.int .i64) 3 (.slice A26 n c26) s, box g4 36 #[.int .i64 (l1.length : Int), .slice As st.length cs, .slice none 0 0], box g5 22 #[.slice A26 n c26], box g2 36 #[.int .i64 0, .slice none 0 0, .slice none 0 0]] w'))
   case atStart => exact ⟨0, s, [], none, 0, rfl, HE0, ⟨by have := HS0.out; simp; omega⟩, H5⟩
   case round =>
    clear HE0 H5 HS0
    obtain ⟨j, s, st, As, cs, rfl, HE, HM, H⟩ := hrel
    cases gk with
    | succ d =>
     have hm := HM.out
     have hl_ := HL2.out
     have c0_ : decide ((j : Int) < (l2.length : Int)) = true := decide_eq_true (by omega)
     have c1_ : decide (j < l2.length) = true := decide_eq_true (by omega)
     have q1 : ((j : Int) < (l2.length : Int)) = True := eq_true (by omega)
     have q2 : (j < l2.length) = True := eq_true (by omega)
     have hw1 : wrap64 ((j : Int) + 1) = (j : Int) + 1 := by unfold wrap64; omega
     obtain ⟨ad2, e1, hx0, hx1, hx2⟩ := at_T80 (Kd.zac HC2.out H.out.bel) (j : Int) (by omega) (by omega)
     cases e1
     rw [Int.toNat_natCast] at hx0 hx1 hx2
     have he := HE.out
     simp only [rdB] at he
     obtain ⟨og, hog⟩ : ∃ og, zae l2 (j : Int) = og := ⟨_, rfl⟩
     rw [hog] at he hx0 hx1 hx2
     have HE := Aside0.mk he
     clear hog hm hl_ he
     go_wp2_with (first | ((with_reducible refine zaf (N := 10) rfl ?_); refine zad ?hg (N := 10) ?hd (cs := #[.int .i64 0, .int .i64 0, .int .i64 0]) (t := 80) ?hr ?_; (case hd => rfl); (case hg => rfl); (case hr => first | (go_simp; done) | (go_simp; rfl)); intro gb hg_ w8 hbox_ hb_; have H9 := Aside0.mk ((H.out).zb6 hbox_ hb_ hg_); clear hbox_ hb_ hg_; have hsgb_0 : w8.cell? ⟨gb, 0, none⟩ = some (.int .i64 0) := (H9.out).za5 (i := 0) rfl 0 rfl; have hfgb_0 := za0 ((H9.out).zai (i := 0) rfl) 0; have hsgb_1 : w8.cell? ⟨gb, 1, none⟩ = some (.int .i64 0) := (H9.out).za5 (i := 0) rfl 1 rfl; have hfgb_1 := za0 ((H9.out).zai (i := 0) rfl) 1; have hsgb_2 : w8.cell? ⟨gb, 2, none⟩ = some (.int .i64 0) := (H9.out).za5 (i := 0) rfl 2 rfl; have hfgb_2 := za0 ((H9.out).zai (i := 0) rfl) 2) | fail)
     have h10 := ((H9.out.zas (i := 0) rfl 0 (.int .i64 og.f0) rfl).zas (i := 0) rfl 1 (.int .i64 og.f1) rfl).zas (i := 0) rfl 2 (.int .i64 og.f2) rfl
     generalize ((w8.setCell ⟨gb, 0, none⟩ (.int .i64 og.f0)).setCell ⟨gb, 1, none⟩ (.int .i64 og.f1)).setCell ⟨gb, 2, none⟩ (.int .i64 og.f2) = w9 at h10 ⊢
     clear H9 H hsgb_0 hsgb_1 hsgb_2 hfgb_0 hfgb_1 hfgb_2 hx0 hx1 hx2
     have H := Aside0.mk (show Fr w w (fun _ => False) [box gb 80 #[.int .i64 og.f0, .int .i64 og.f1, .int .i64 og.f2], row k117 117 (.slice As st.length cs) st, row (Kd.int .i64) 3 (.slice A26 n c26) s, box g4 36 #[.int .i64 (l1.length : Int), .slice As st.length cs, .slice none 0 0], box g5 22 #[.slice A26 n c26], box g2 36 #[.int .i64 0, .slice none 0 0, .slice none 0 0]] w9 from h10)
     clear h10
     refine (read1_calls g5 22 n c26 _ _ _ (by have := HNN.out; omega) (H.out.zai (i := 4) rfl)).mono ?_
     rintro e wh ⟨rfl, hb_⟩
     have H_ := Aside0.mk (H.out.below hb_)
     clear hb_ H
     have H := H_
     clear H_
     cases hb0 : hasB n og.f0 with
     | false =>
      have he := HE.out
      rw [if_neg (fun h => by rw [hb0] at h; exact absurd h.1 (by simp))] at he
      have HF := Aside0.mk he
      clear he
      have y10_0 : wh.cell? ⟨gb, 0, none⟩ = some (.int .i64 og.f0) := (H.out).za5 (i := 0) rfl 0 rfl
      have y10_1 : wh.cell? ⟨gb, 1, none⟩ = some (.int .i64 og.f1) := (H.out).za5 (i := 0) rfl 1 rfl
      have y10_2 : wh.cell? ⟨gb, 2, none⟩ = some (.int .i64 og.f2) := (H.out).za5 (i := 0) rfl 2 rfl
      have y5 : wh.cell? ⟨g5, 0, none⟩ = some (.slice A26 n c26) := (H.out).za5 (i := 4) rfl 0 rfl
      have s2_0 : wh.cell? ⟨g2, 0, none⟩ = some (.int .i64 0) := (H.out).za5 (i := 5) rfl 0 rfl
      have f2_0 := za0 ((H.out).zai (i := 5) rfl) 0
      have s2_1 : wh.cell? ⟨g2, 1, none⟩ = some (.slice none 0 0) := (H.out).za5 (i := 5) rfl 1 rfl
      have f2_1 := za0 ((H.out).zai (i := 5) rfl) 1
      have s2_2 : wh.cell? ⟨g2, 2, none⟩ = some (.slice none 0 0) := (H.out).za5 (i := 5) rfl 2 rfl
      have f2_2 := za0 ((H.out).zai (i := 5) rfl) 2
      go_wp2_with fail
      have h4 := (((H.out).zas (i := 5) rfl 0 (.int .i64 0) rfl).zas (i := 5) rfl 1 (.slice none 0 0) rfl).zas (i := 5) rfl 2 (.slice none 0 0) rfl
      refine bodyPost_ret (results_ct rfl _ _ g2 36 #[.int .i64 0, .slice none 0 0, .slice none 0 0] (0, 0) _ rfl (h4.zai (i := 5) rfl) Try.underlying36 rfl (by kernel_rfl)) rfl ?_
      obtain ⟨rfl, rfl, rfl, rfl⟩ : r1 = 0 ∧ r2 = [] ∧ r3 = [] ∧ r4 = false := by have h9 := HF.out; simp only [Prod.mk.injEq] at h9; exact ⟨h9.1.symm, h9.2.1.symm, h9.2.2.1.symm, h9.2.2.2.symm⟩
      exact ⟨_, _, rfl, Kd.R_nil _ _ _ _ _, Kd.R_nil _ _ _ _ _, h4.bel⟩
     | true =>
      cases hb1 : hasB n og.f1 with
      | false =>
       have he := HE.out
       rw [if_neg (fun h => by rw [hb1] at h; exact absurd h.2.1 (by simp))] at he
       have HF := Aside0.mk he
       clear he
       have y10_0 : wh.cell? ⟨gb, 0, none⟩ = some (.int .i64 og.f0) := (H.out).za5 (i := 0) rfl 0 rfl
       have y10_1 : wh.cell? ⟨gb, 1, none⟩ = some (.int .i64 og.f1) := (H.out).za5 (i := 0) rfl 1 rfl
       have y10_2 : wh.cell? ⟨gb, 2, none⟩ = some (.int .i64 og.f2) := (H.out).za5 (i := 0) rfl 2 rfl
       have y5 : wh.cell? ⟨g5, 0, none⟩ = some (.slice A26 n c26) := (H.out).za5 (i := 4) rfl 0 rfl
       have s2_0 : wh.cell? ⟨g2, 0, none⟩ = some (.int .i64 0) := (H.out).za5 (i := 5) rfl 0 rfl
       have f2_0 := za0 ((H.out).zai (i := 5) rfl) 0
       have s2_1 : wh.cell? ⟨g2, 1, none⟩ = some (.slice none 0 0) := (H.out).za5 (i := 5) rfl 1 rfl
       have f2_1 := za0 ((H.out).zai (i := 5) rfl) 1
       have s2_2 : wh.cell? ⟨g2, 2, none⟩ = some (.slice none 0 0) := (H.out).za5 (i := 5) rfl 2 rfl
       have f2_2 := za0 ((H.out).zai (i := 5) rfl) 2
       go_wp2_with (go_at_call 170; refine (read1_calls g5 22 n c26 _ _ _ (by have := HNN.out; omega) (H.out.zai (i := 4) rfl)).mono ?_; rintro e wh ⟨rfl, hb_⟩; have H_ := Aside0.mk (H.out.below hb_); clear hb_ H y10_0 y10_1 y10_2 y5 s2_0 f2_0 s2_1 f2_1 s2_2 f2_2; have H := H_; clear H_; have y10_0 : wh.cell? ⟨gb, 0, none⟩ = some (.int .i64 og.f0) := (H.out).za5 (i := 0) rfl 0 rfl; have y10_1 : wh.cell? ⟨gb, 1, none⟩ = some (.int .i64 og.f1) := (H.out).za5 (i := 0) rfl 1 rfl; have y10_2 : wh.cell? ⟨gb, 2, none⟩ = some (.int .i64 og.f2) := (H.out).za5 (i := 0) rfl 2 rfl; have y5 : wh.cell? ⟨g5, 0, none⟩ = some (.slice A26 n c26) := (H.out).za5 (i := 4) rfl 0 rfl; have s2_0 : wh.cell? ⟨g2, 0, none⟩ = some (.int .i64 0) := (H.out).za5 (i := 5) rfl 0 rfl; have f2_0 := za0 ((H.out).zai (i := 5) rfl) 0; have s2_1 : wh.cell? ⟨g2, 1, none⟩ = some (.slice none 0 0) := (H.out).za5 (i := 5) rfl 1 rfl; have f2_1 := za0 ((H.out).zai (i := 5) rfl) 1; have s2_2 : wh.cell? ⟨g2, 2, none⟩ = some (.slice none 0 0) := (H.out).za5 (i := 5) rfl 2 rfl; have f2_2 := za0 ((H.out).zai (i := 5) rfl) 2)
       have h4 := (((H.out).zas (i := 5) rfl 0 (.int .i64 0) rfl).zas (i := 5) rfl 1 (.slice none 0 0) rfl).zas (i := 5) rfl 2 (.slice none 0 0) rfl
       refine bodyPost_ret (results_ct rfl _ _ g2 36 #[.int .i64 0, .slice none 0 0, .slice none 0 0] (0, 0) _ rfl (h4.zai (i := 5) rfl) Try.underlying36 rfl (by kernel_rfl)) rfl ?_
       obtain ⟨rfl, rfl, rfl, rfl⟩ : r1 = 0 ∧ r2 = [] ∧ r3 = [] ∧ r4 = false := by have h9 := HF.out; simp only [Prod.mk.injEq] at h9; exact ⟨h9.1.symm, h9.2.1.symm, h9.2.2.1.symm, h9.2.2.2.symm⟩
       exact ⟨_, _, rfl, Kd.R_nil _ _ _ _ _, Kd.R_nil _ _ _ _ _, h4.bel⟩
      | true =>
       cases hb2 : hasB n og.f2 with
       | false =>
        have he := HE.out
        rw [if_neg (fun h => by rw [hb2] at h; exact absurd h.2.2.1 (by simp))] at he
        have HF := Aside0.mk he
        clear he
        have y10_0 : wh.cell? ⟨gb, 0, none⟩ = some (.int .i64 og.f0) := (H.out).za5 (i := 0) rfl 0 rfl
        have y10_1 : wh.cell? ⟨gb, 1, none⟩ = some (.int .i64 og.f1) := (H.out).za5 (i := 0) rfl 1 rfl
        have y10_2 : wh.cell? ⟨gb, 2, none⟩ = some (.int .i64 og.f2) := (H.out).za5 (i := 0) rfl 2 rfl
        have y5 : wh.cell? ⟨g5, 0, none⟩ = some (.slice A26 n c26) := (H.out).za5 (i := 4) rfl 0 rfl
        have s2_0 : wh.cell? ⟨g2, 0, none⟩ = some (.int .i64 0) := (H.out).za5 (i := 5) rfl 0 rfl
        have f2_0 := za0 ((H.out).zai (i := 5) rfl) 0
        have s2_1 : wh.cell? ⟨g2, 1, none⟩ = some (.slice none 0 0) := (H.out).za5 (i := 5) rfl 1 rfl
        have f2_1 := za0 ((H.out).zai (i := 5) rfl) 1
        have s2_2 : wh.cell? ⟨g2, 2, none⟩ = some (.slice none 0 0) := (H.out).za5 (i := 5) rfl 2 rfl
        have f2_2 := za0 ((H.out).zai (i := 5) rfl) 2
        go_wp2_with (go_at_call 170; refine (read1_calls g5 22 n c26 _ _ _ (by have := HNN.out; omega) (H.out.zai (i := 4) rfl)).mono ?_; rintro e wh ⟨rfl, hb_⟩; have H_ := Aside0.mk (H.out.below hb_); clear hb_ H y10_0 y10_1 y10_2 y5 s2_0 f2_0 s2_1 f2_1 s2_2 f2_2; have H := H_; clear H_; have y10_0 : wh.cell? ⟨gb, 0, none⟩ = some (.int .i64 og.f0) := (H.out).za5 (i := 0) rfl 0 rfl; have y10_1 : wh.cell? ⟨gb, 1, none⟩ = some (.int .i64 og.f1) := (H.out).za5 (i := 0) rfl 1 rfl; have y10_2 : wh.cell? ⟨gb, 2, none⟩ = some (.int .i64 og.f2) := (H.out).za5 (i := 0) rfl 2 rfl; have y5 : wh.cell? ⟨g5, 0, none⟩ = some (.slice A26 n c26) := (H.out).za5 (i := 4) rfl 0 rfl; have s2_0 : wh.cell? ⟨g2, 0, none⟩ = some (.int .i64 0) := (H.out).za5 (i := 5) rfl 0 rfl; have f2_0 := za0 ((H.out).zai (i := 5) rfl) 0; have s2_1 : wh.cell? ⟨g2, 1, none⟩ = some (.slice none 0 0) := (H.out).za5 (i := 5) rfl 1 rfl; have f2_1 := za0 ((H.out).zai (i := 5) rfl) 1; have s2_2 : wh.cell? ⟨g2, 2, none⟩ = some (.slice none 0 0) := (H.out).za5 (i := 5) rfl 2 rfl; have f2_2 := za0 ((H.out).zai (i := 5) rfl) 2)
        have h4 := (((H.out).zas (i := 5) rfl 0 (.int .i64 0) rfl).zas (i := 5) rfl 1 (.slice none 0 0) rfl).zas (i := 5) rfl 2 (.slice none 0 0) rfl
        refine bodyPost_ret (results_ct rfl _ _ g2 36 #[.int .i64 0, .slice none 0 0, .slice none 0 0] (0, 0) _ rfl (h4.zai (i := 5) rfl) Try.underlying36 rfl (by kernel_rfl)) rfl ?_
        obtain ⟨rfl, rfl, rfl, rfl⟩ : r1 = 0 ∧ r2 = [] ∧ r3 = [] ∧ r4 = false := by have h9 := HF.out; simp only [Prod.mk.injEq] at h9; exact ⟨h9.1.symm, h9.2.1.symm, h9.2.2.1.symm, h9.2.2.2.symm⟩
        exact ⟨_, _, rfl, Kd.R_nil _ _ _ _ _, Kd.R_nil _ _ _ _ _, h4.bel⟩
       | true =>
        have hb := hb0
        obtain ⟨gI, cI, e26⟩ := H.out.row_head (i := 2) rfl (by have := zal hb; have := HM.out; omega)
        injection e26 with e26a e26n e26b
        clear e26n
        subst e26a
        subst e26b
        clear hb
        have p1_0 : (0 ≤ og.f0) = True := eq_true (zal hb0).1
        have p2_0 : (og.f0 < (n : Int)) = True := eq_true (zal hb0).2
        have p1_1 : (0 ≤ og.f1) = True := eq_true (zal hb1).1
        have p2_1 : (og.f1 < (n : Int)) = True := eq_true (zal hb1).2
        have p1_2 : (0 ≤ og.f2) = True := eq_true (zal hb2).1
        have p2_2 : (og.f2 < (n : Int)) = True := eq_true (zal hb2).2
        have HBz0 := Aside0.mk hb0
        have HBz1 := Aside0.mk hb1
        have HBz2 := Aside0.mk hb2
        by_cases hv1 : rd s og.f1 = -1
        ·have cB1 : (rd s og.f1 == -1) = true := by simp [hv1]
         have he := HE.out
         rw [if_neg (fun h => h.2.2.2.1 hv1)] at he
         have HF := Aside0.mk he
         clear he
         clear hv1
         have y10_0 : wh.cell? ⟨gb, 0, none⟩ = some (.int .i64 og.f0) := (H.out).za5 (i := 0) rfl 0 rfl
         have y10_1 : wh.cell? ⟨gb, 1, none⟩ = some (.int .i64 og.f1) := (H.out).za5 (i := 0) rfl 1 rfl
         have y10_2 : wh.cell? ⟨gb, 2, none⟩ = some (.int .i64 og.f2) := (H.out).za5 (i := 0) rfl 2 rfl
         have y5 : wh.cell? ⟨g5, 0, none⟩ = some (.slice (some ⟨gI, 0, none⟩) n c26) := (H.out).za5 (i := 4) rfl 0 rfl
         have s2_0 : wh.cell? ⟨g2, 0, none⟩ = some (.int .i64 0) := (H.out).za5 (i := 5) rfl 0 rfl
         have f2_0 := za0 ((H.out).zai (i := 5) rfl) 0
         have s2_1 : wh.cell? ⟨g2, 1, none⟩ = some (.slice none 0 0) := (H.out).za5 (i := 5) rfl 1 rfl
         have f2_1 := za0 ((H.out).zai (i := 5) rfl) 1
         have s2_2 : wh.cell? ⟨g2, 2, none⟩ = some (.slice none 0 0) := (H.out).za5 (i := 5) rfl 2 rfl
         have f2_2 := za0 ((H.out).zai (i := 5) rfl) 2
         have z1 := (H.out.zb0 (i := 2) rfl og.f1 (zal HBz1.out).1 (zal HBz1.out).2).1
         have z1f := (H.out.zb0 (i := 2) rfl og.f1 (zal HBz1.out).1 (zal HBz1.out).2).2
         have z2 := (H.out.zb0 (i := 2) rfl og.f2 (zal HBz2.out).1 (zal HBz2.out).2).1
         have z2f := (H.out.zb0 (i := 2) rfl og.f2 (zal HBz2.out).1 (zal HBz2.out).2).2
         go_wp2_with (go_at_call 170; refine (read1_calls g5 22 n c26 _ _ _ (by have := HNN.out; omega) (H.out.zai (i := 4) rfl)).mono ?_; rintro e wh ⟨rfl, hb_⟩; have H_ := Aside0.mk (H.out.below hb_); clear hb_ H y10_0 y10_1 y10_2 y5 s2_0 f2_0 s2_1 f2_1 s2_2 f2_2 z1 z1f z2 z2f; have H := H_; clear H_; have y10_0 : wh.cell? ⟨gb, 0, none⟩ = some (.int .i64 og.f0) := (H.out).za5 (i := 0) rfl 0 rfl; have y10_1 : wh.cell? ⟨gb, 1, none⟩ = some (.int .i64 og.f1) := (H.out).za5 (i := 0) rfl 1 rfl; have y10_2 : wh.cell? ⟨gb, 2, none⟩ = some (.int .i64 og.f2) := (H.out).za5 (i := 0) rfl 2 rfl; have y5 : wh.cell? ⟨g5, 0, none⟩ = some (.slice (some ⟨gI, 0, none⟩) n c26) := (H.out).za5 (i := 4) rfl 0 rfl; have s2_0 : wh.cell? ⟨g2, 0, none⟩ = some (.int .i64 0) := (H.out).za5 (i := 5) rfl 0 rfl; have f2_0 := za0 ((H.out).zai (i := 5) rfl) 0; have s2_1 : wh.cell? ⟨g2, 1, none⟩ = some (.slice none 0 0) := (H.out).za5 (i := 5) rfl 1 rfl; have f2_1 := za0 ((H.out).zai (i := 5) rfl) 1; have s2_2 : wh.cell? ⟨g2, 2, none⟩ = some (.slice none 0 0) := (H.out).za5 (i := 5) rfl 2 rfl; have f2_2 := za0 ((H.out).zai (i := 5) rfl) 2; have z1 := (H.out.zb0 (i := 2) rfl og.f1 (zal HBz1.out).1 (zal HBz1.out).2).1; have z1f := (H.out.zb0 (i := 2) rfl og.f1 (zal HBz1.out).1 (zal HBz1.out).2).2; have z2 := (H.out.zb0 (i := 2) rfl og.f2 (zal HBz2.out).1 (zal HBz2.out).2).1; have z2f := (H.out.zb0 (i := 2) rfl og.f2 (zal HBz2.out).1 (zal HBz2.out).2).2)
         have h4 := (((H.out).zas (i := 5) rfl 0 (.int .i64 0) rfl).zas (i := 5) rfl 1 (.slice none 0 0) rfl).zas (i := 5) rfl 2 (.slice none 0 0) rfl
         refine bodyPost_ret (results_ct rfl _ _ g2 36 #[.int .i64 0, .slice none 0 0, .slice none 0 0] (0, 0) _ rfl (h4.zai (i := 5) rfl) Try.underlying36 rfl (by kernel_rfl)) rfl ?_
         obtain ⟨rfl, rfl, rfl, rfl⟩ : r1 = 0 ∧ r2 = [] ∧ r3 = [] ∧ r4 = false := by have h9 := HF.out; simp only [Prod.mk.injEq] at h9; exact ⟨h9.1.symm, h9.2.1.symm, h9.2.2.1.symm, h9.2.2.2.symm⟩
         exact ⟨_, _, rfl, Kd.R_nil _ _ _ _ _, Kd.R_nil _ _ _ _ _, h4.bel⟩
        ·have cB1 : (rd s og.f1 == -1) = false := by simp [hv1]
         by_cases hv2 : rd s og.f2 = -1
         ·have cB2 : (rd s og.f2 == -1) = true := by simp [hv2]
          have he := HE.out
          rw [if_neg (fun h => h.2.2.2.2 hv2)] at he
          have HF := Aside0.mk he
          clear he
          clear hv1 hv2
          have y10_0 : wh.cell? ⟨gb, 0, none⟩ = some (.int .i64 og.f0) := (H.out).za5 (i := 0) rfl 0 rfl
          have y10_1 : wh.cell? ⟨gb, 1, none⟩ = some (.int .i64 og.f1) := (H.out).za5 (i := 0) rfl 1 rfl
          have y10_2 : wh.cell? ⟨gb, 2, none⟩ = some (.int .i64 og.f2) := (H.out).za5 (i := 0) rfl 2 rfl
          have y5 : wh.cell? ⟨g5, 0, none⟩ = some (.slice (some ⟨gI, 0, none⟩) n c26) := (H.out).za5 (i := 4) rfl 0 rfl
          have s2_0 : wh.cell? ⟨g2, 0, none⟩ = some (.int .i64 0) := (H.out).za5 (i := 5) rfl 0 rfl
          have f2_0 := za0 ((H.out).zai (i := 5) rfl) 0
          have s2_1 : wh.cell? ⟨g2, 1, none⟩ = some (.slice none 0 0) := (H.out).za5 (i := 5) rfl 1 rfl
          have f2_1 := za0 ((H.out).zai (i := 5) rfl) 1
          have s2_2 : wh.cell? ⟨g2, 2, none⟩ = some (.slice none 0 0) := (H.out).za5 (i := 5) rfl 2 rfl
          have f2_2 := za0 ((H.out).zai (i := 5) rfl) 2
          have z1 := (H.out.zb0 (i := 2) rfl og.f1 (zal HBz1.out).1 (zal HBz1.out).2).1
          have z1f := (H.out.zb0 (i := 2) rfl og.f1 (zal HBz1.out).1 (zal HBz1.out).2).2
          have z2 := (H.out.zb0 (i := 2) rfl og.f2 (zal HBz2.out).1 (zal HBz2.out).2).1
          have z2f := (H.out.zb0 (i := 2) rfl og.f2 (zal HBz2.out).1 (zal HBz2.out).2).2
          go_wp2_with (go_at_call 170; refine (read1_calls g5 22 n c26 _ _ _ (by have := HNN.out; omega) (H.out.zai (i := 4) rfl)).mono ?_; rintro e wh ⟨rfl, hb_⟩; have H_ := Aside0.mk (H.out.below hb_); clear hb_ H y10_0 y10_1 y10_2 y5 s2_0 f2_0 s2_1 f2_1 s2_2 f2_2 z1 z1f z2 z2f; have H := H_; clear H_; have y10_0 : wh.cell? ⟨gb, 0, none⟩ = some (.int .i64 og.f0) := (H.out).za5 (i := 0) rfl 0 rfl; have y10_1 : wh.cell? ⟨gb, 1, none⟩ = some (.int .i64 og.f1) := (H.out).za5 (i := 0) rfl 1 rfl; have y10_2 : wh.cell? ⟨gb, 2, none⟩ = some (.int .i64 og.f2) := (H.out).za5 (i := 0) rfl 2 rfl; have y5 : wh.cell? ⟨g5, 0, none⟩ = some (.slice (some ⟨gI, 0, none⟩) n c26) := (H.out).za5 (i := 4) rfl 0 rfl; have s2_0 : wh.cell? ⟨g2, 0, none⟩ = some (.int .i64 0) := (H.out).za5 (i := 5) rfl 0 rfl; have f2_0 := za0 ((H.out).zai (i := 5) rfl) 0; have s2_1 : wh.cell? ⟨g2, 1, none⟩ = some (.slice none 0 0) := (H.out).za5 (i := 5) rfl 1 rfl; have f2_1 := za0 ((H.out).zai (i := 5) rfl) 1; have s2_2 : wh.cell? ⟨g2, 2, none⟩ = some (.slice none 0 0) := (H.out).za5 (i := 5) rfl 2 rfl; have f2_2 := za0 ((H.out).zai (i := 5) rfl) 2; have z1 := (H.out.zb0 (i := 2) rfl og.f1 (zal HBz1.out).1 (zal HBz1.out).2).1; have z1f := (H.out.zb0 (i := 2) rfl og.f1 (zal HBz1.out).1 (zal HBz1.out).2).2; have z2 := (H.out.zb0 (i := 2) rfl og.f2 (zal HBz2.out).1 (zal HBz2.out).2).1; have z2f := (H.out.zb0 (i := 2) rfl og.f2 (zal HBz2.out).1 (zal HBz2.out).2).2)
          have h4 := (((H.out).zas (i := 5) rfl 0 (.int .i64 0) rfl).zas (i := 5) rfl 1 (.slice none 0 0) rfl).zas (i := 5) rfl 2 (.slice none 0 0) rfl
          refine bodyPost_ret (results_ct rfl _ _ g2 36 #[.int .i64 0, .slice none 0 0, .slice none 0 0] (0, 0) _ rfl (h4.zai (i := 5) rfl) Try.underlying36 rfl (by kernel_rfl)) rfl ?_
          obtain ⟨rfl, rfl, rfl, rfl⟩ : r1 = 0 ∧ r2 = [] ∧ r3 = [] ∧ r4 = false := by have h9 := HF.out; simp only [Prod.mk.injEq] at h9; exact ⟨h9.1.symm, h9.2.1.symm, h9.2.2.1.symm, h9.2.2.2.symm⟩
          exact ⟨_, _, rfl, Kd.R_nil _ _ _ _ _, Kd.R_nil _ _ _ _ _, h4.bel⟩
         ·have cB2 : (rd s og.f2 == -1) = false := by simp [hv2]
          have he := HE.out
          rw [if_pos ⟨hb0, hb1, hb2, hv1, hv2⟩] at he
          clear HE
          have HE := Aside0.mk he
          clear he hv1 hv2
          have y10_0 : wh.cell? ⟨gb, 0, none⟩ = some (.int .i64 og.f0) := (H.out).za5 (i := 0) rfl 0 rfl
          have y10_1 : wh.cell? ⟨gb, 1, none⟩ = some (.int .i64 og.f1) := (H.out).za5 (i := 0) rfl 1 rfl
          have y10_2 : wh.cell? ⟨gb, 2, none⟩ = some (.int .i64 og.f2) := (H.out).za5 (i := 0) rfl 2 rfl
          have y5 : wh.cell? ⟨g5, 0, none⟩ = some (.slice (some ⟨gI, 0, none⟩) n c26) := (H.out).za5 (i := 4) rfl 0 rfl
          have z1 := (H.out.zb0 (i := 2) rfl og.f1 (zal HBz1.out).1 (zal HBz1.out).2).1
          have z1f := (H.out.zb0 (i := 2) rfl og.f1 (zal HBz1.out).1 (zal HBz1.out).2).2
          have z2 := (H.out.zb0 (i := 2) rfl og.f2 (zal HBz2.out).1 (zal HBz2.out).2).1
          have z2f := (H.out.zb0 (i := 2) rfl og.f2 (zal HBz2.out).1 (zal HBz2.out).2).2
          go_wp2_with (go_at_call 170; refine (read1_calls g5 22 n c26 _ _ _ (by have := HNN.out; omega) (H.out.zai (i := 4) rfl)).mono ?_; rintro e wh ⟨rfl, hb_⟩; have H_ := Aside0.mk (H.out.below hb_); clear hb_ H y10_0 y10_1 y10_2 y5 z1 z1f z2 z2f; have H := H_; clear H_; have y10_0 : wh.cell? ⟨gb, 0, none⟩ = some (.int .i64 og.f0) := (H.out).za5 (i := 0) rfl 0 rfl; have y10_1 : wh.cell? ⟨gb, 1, none⟩ = some (.int .i64 og.f1) := (H.out).za5 (i := 0) rfl 1 rfl; have y10_2 : wh.cell? ⟨gb, 2, none⟩ = some (.int .i64 og.f2) := (H.out).za5 (i := 0) rfl 2 rfl; have y5 : wh.cell? ⟨g5, 0, none⟩ = some (.slice (some ⟨gI, 0, none⟩) n c26) := (H.out).za5 (i := 4) rfl 0 rfl; have z1 := (H.out.zb0 (i := 2) rfl og.f1 (zal HBz1.out).1 (zal HBz1.out).2).1; have z1f := (H.out.zb0 (i := 2) rfl og.f1 (zal HBz1.out).1 (zal HBz1.out).2).2; have z2 := (H.out.zb0 (i := 2) rfl og.f2 (zal HBz2.out).1 (zal HBz2.out).2).1; have z2f := (H.out.zb0 (i := 2) rfl og.f2 (zal HBz2.out).1 (zal HBz2.out).2).2)
          have HST := Aside0.mk (fun (W : World) => impl_step.calls (rd s og.f1) (rd s og.f2) (mn (rd s og.f1) (rd s og.f2)) (mx (rd s og.f1) (rd s og.f2)) W rfl)
          have HMB := Aside0.mk (show st.length + 1 ≤ 1000000 by have := HM.out; have := HL2.out; omega)
          clear  y10_0 y10_1 y10_2 y5 z1 z1f z2 z2f
          refine start_ (n := 17) (S := fun w' => w'.cell? ⟨g4, 1, none⟩ = some (.slice As st.length cs) ∧ w'.cell? ⟨g5, 0, none⟩ = some (.slice (some ⟨gI, 0, none⟩) n c26) ∧ w'.cell? ⟨gb, 1, none⟩ = some (.int .i64 og.f1) ∧ w'.cell? ⟨gb, 2, none⟩ = some (.int .i64 og.f2) ∧ w'.cell? ⟨gI, og.f1.toNat, none⟩ = some (.int .i64 (rd s og.f1)) ∧ w'.cell? ⟨gI, og.f2.toNat, none⟩ = some (.int .i64 (rd s og.f2))) (ds := [16]) #[false, false, false, false, false, false, false, false, false, false, false, false, false, false, false, false, false] (by kernel_rfl) rfl rfl ⟨(H.out.drew).za5 (i := 3) rfl 1 rfl, (H.out.drew).za5 (i := 4) rfl 0 rfl, (H.out.drew).za5 (i := 0) rfl 1 rfl, (H.out.drew).za5 (i := 0) rfl 2 rfl, ((H.out.drew).zb0 (i := 2) rfl og.f1 (zal HBz1.out).1 (zal HBz1.out).2).1, ((H.out.drew).zb0 (i := 2) rfl og.f2 (zal HBz2.out).1 (zal HBz2.out).2).1⟩ (fun hHeld => ?_)
          refine pure_ (i := 0) (N := some 100) (v := ?_) (a' := ?_) #[true, false, false, false, false, false, false, false, false, false, false, false, false, false, false, false, false] rfl rfl (by kernel_rfl) (fun _ _ _ h => h) (Or.inl ⟨by rfl, ?_⟩) ?_ ?_
          rotate_left
          ·intro w'
           go_simp
           with_reducible rfl
          rotate_left
          ·simp only [Act.put, sa_, sb_, sc_, i64_w, i32_w]
           rfl
          refine pure_ (i := 3) (N := some 103) (v := ?_) (a' := ?_) #[true, false, false, true, false, false, false, false, false, false, false, false, false, false, false, false, false] rfl rfl (by kernel_rfl) (fun _ _ _ h => h) (Or.inl ⟨by rfl, ?_⟩) ?_ ?_
          rotate_left
          ·intro w'
           go_simp
           with_reducible rfl
          rotate_left
          ·simp only [Act.put, sa_, sb_, sc_, i64_w, i32_w]
           rfl
          refine pure_ (i := 8) (N := some 108) (v := ?_) (a' := ?_) #[true, false, false, true, false, false, false, false, true, false, false, false, false, false, false, false, false] rfl rfl (by kernel_rfl) (fun _ _ _ h => h) (Or.inl ⟨by rfl, ?_⟩) ?_ ?_
          rotate_left
          ·intro w'
           go_simp
           with_reducible rfl
          rotate_left
          ·simp only [Act.put, sa_, sb_, sc_, i64_w, i32_w]
           rfl
          refine take_ (i := 1) (N := some 101) (v := ?_) (a' := ?_) #[true, true, false, true, false, false, false, false, true, false, false, false, false, false, false, false, false] rfl rfl (by kernel_rfl) (fun _ _ _ h => h) (Or.inl ⟨by rfl, ?_⟩) hHeld ?_ ?_
          rotate_left
          ·rintro w' ⟨s0, s1, s2, s3, s4, s5⟩
           go_simp
           with_reducible rfl
          rotate_left
          ·simp only [Act.put, sa_, sb_, sc_, i64_w, i32_w]
           rfl
          refine take_ (i := 2) (N := some 102) (v := ?_) (a' := ?_) #[true, true, true, true, false, false, false, false, true, false, false, false, false, false, false, false, false] rfl rfl (by kernel_rfl) (fun _ _ _ h => h) (Or.inl ⟨by rfl, ?_⟩) hHeld ?_ ?_
          rotate_left
          ·rintro w' ⟨s0, s1, s2, s3, s4, s5⟩
           go_simp
           with_reducible rfl
          rotate_left
          ·simp only [Act.put, sa_, sb_, sc_, i64_w, i32_w]
           rfl
          refine take_ (i := 4) (N := some 104) (v := ?_) (a' := ?_) #[true, true, true, true, true, false, false, false, true, false, false, false, false, false, false, false, false] rfl rfl (by kernel_rfl) (fun _ _ _ h => h) (Or.inl ⟨by rfl, ?_⟩) hHeld ?_ ?_
          rotate_left
          ·rintro w' ⟨s0, s1, s2, s3, s4, s5⟩
           go_simp
           with_reducible rfl
          rotate_left
          ·simp only [Act.put, sa_, sb_, sc_, i64_w, i32_w]
           rfl
          refine pure_ (i := 5) (N := some 105) (v := ?_) (a' := ?_) #[true, true, true, true, true, true, false, false, true, false, false, false, false, false, false, false, false] rfl rfl (by kernel_rfl) (fun _ _ _ h => h) (Or.inl ⟨by rfl, ?_⟩) ?_ ?_
          rotate_left
          ·intro w'
           go_simp
           with_reducible rfl
          rotate_left
          ·simp only [Act.put, sa_, sb_, sc_, i64_w, i32_w]
           rfl
          refine take_ (i := 6) (N := some 106) (v := ?_) (a' := ?_) #[true, true, true, true, true, true, true, false, true, false, false, false, false, false, false, false, false] rfl rfl (by kernel_rfl) (fun _ _ _ h => h) (Or.inl ⟨by rfl, ?_⟩) hHeld ?_ ?_
          rotate_left
          ·rintro w' ⟨s0, s1, s2, s3, s4, s5⟩
           go_simp
           with_reducible rfl
          rotate_left
          ·simp only [Act.put, sa_, sb_, sc_, i64_w, i32_w]
           rfl
          refine take_ (i := 7) (N := some 107) (v := ?_) (a' := ?_) #[true, true, true, true, true, true, true, true, true, false, false, false, false, false, false, false, false] rfl rfl (by kernel_rfl) (fun _ _ _ h => h) (Or.inl ⟨by rfl, ?_⟩) hHeld ?_ ?_
          rotate_left
          ·rintro w' ⟨s0, s1, s2, s3, s4, s5⟩
           go_simp
           with_reducible rfl
          rotate_left
          ·simp only [Act.put, sa_, sb_, sc_, i64_w, i32_w]
           rfl
          refine take_ (i := 9) (N := some 109) (v := ?_) (a' := ?_) #[true, true, true, true, true, true, true, true, true, true, false, false, false, false, false, false, false] rfl rfl (by kernel_rfl) (fun _ _ _ h => h) (Or.inl ⟨by rfl, ?_⟩) hHeld ?_ ?_
          rotate_left
          ·rintro w' ⟨s0, s1, s2, s3, s4, s5⟩
           go_simp
           with_reducible rfl
          rotate_left
          ·simp only [Act.put, sa_, sb_, sc_, i64_w, i32_w]
           rfl
          refine pure_ (i := 10) (N := some 110) (v := ?_) (a' := ?_) #[true, true, true, true, true, true, true, true, true, true, true, false, false, false, false, false, false] rfl rfl (by kernel_rfl) (fun _ _ _ h => h) (Or.inl ⟨by rfl, ?_⟩) ?_ ?_
          rotate_left
          ·intro w'
           go_simp
           with_reducible rfl
          rotate_left
          ·simp only [Act.put, sa_, sb_, sc_, i64_w, i32_w]
           rfl
          refine take_ (i := 11) (N := some 111) (v := ?_) (a' := ?_) #[true, true, true, true, true, true, true, true, true, true, true, true, false, false, false, false, false] rfl rfl (by kernel_rfl) (fun _ _ _ h => h) (Or.inl ⟨by rfl, ?_⟩) hHeld ?_ ?_
          rotate_left
          ·rintro w' ⟨s0, s1, s2, s3, s4, s5⟩
           go_simp
           with_reducible rfl
          rotate_left
          ·simp only [Act.put, sa_, sb_, sc_, i64_w, i32_w]
           rfl
          refine one_ (i := 12) (N := some 112) #[true, true, true, true, true, true, true, true, true, true, true, true, true, false, false, false, false] rfl rfl (by kernel_rfl) (by decide) (fun K hK => ?_)
          refine goes_ Try.func151 (by kernel_rfl) rfl #[.int .i64 (rd s og.f1), .int .i64 (rd s og.f2)] (by rfl) rfl rfl (by simp only [List.map_toArray, List.map_cons, List.map_nil]; rfl) ?_
          with_reducible refine (HST.out _).mono ?_
          rintro e w10 ⟨rfl, hb_⟩
          refine ⟨_, rfl, ?_⟩
          have H11 := Aside0.mk (H.out.drew.below hb_)
          clear hb_
          refine hK.out _ _ ⟨(H11.out).za5 (i := 3) rfl 1 rfl, (H11.out).za5 (i := 4) rfl 0 rfl, (H11.out).za5 (i := 0) rfl 1 rfl, (H11.out).za5 (i := 0) rfl 2 rfl, ((H11.out).zb0 (i := 2) rfl og.f1 (zal HBz1.out).1 (zal HBz1.out).2).1, ((H11.out).zb0 (i := 2) rfl og.f2 (zal HBz2.out).1 (zal HBz2.out).2).1⟩ (fun hHeld => ?_)
          clear hK K
          refine norm_ (a' := ?_) ?_ ?_
          rotate_left
          ·show Act.put _ (some 112) _ = _
           simp only [Act.put, sa_, sb_, sc_, i64_w, i32_w]
           rfl
          refine one_ (i := 13) (N := some 113) #[true, true, true, true, true, true, true, true, true, true, true, true, true, true, false, false, false] rfl rfl (by kernel_rfl) (by decide) (fun K hK => ?_)
          refine value_ (w1 := ?_) (v := ?_) (by rfl) rfl ?_ ?_
          rotate_left 2
          ·go_simp
           constructor
           ·rfl
           ·rfl
          refine hK.out _ _ ⟨((H11.out.alloc _)).za5 (i := 3) rfl 1 rfl, ((H11.out.alloc _)).za5 (i := 4) rfl 0 rfl, ((H11.out.alloc _)).za5 (i := 0) rfl 1 rfl, ((H11.out.alloc _)).za5 (i := 0) rfl 2 rfl, (((H11.out.alloc _)).zb0 (i := 2) rfl og.f1 (zal HBz1.out).1 (zal HBz1.out).2).1, (((H11.out.alloc _)).zb0 (i := 2) rfl og.f2 (zal HBz2.out).1 (zal HBz2.out).2).1⟩ (fun hHeld => ?_)
          clear hK K
          refine norm_ (a' := ?_) ?_ ?_
          rotate_left
          ·show Act.put _ (some 113) _ = _
           simp only [Act.put, sa_, sb_, sc_, i64_w, i32_w]
           rfl
          refine one_ (i := 14) (N := some 114) #[true, true, true, true, true, true, true, true, true, true, true, true, true, true, true, false, false] rfl rfl (by kernel_rfl) (by decide) (fun K hK => ?_)
          obtain ⟨ok_, hR_, hF_, hX_⟩ := (H11.out).row_append (i := 1) rfl
          refine Kd.R_append_step k117 (w0 := w) w.heap.size (by rfl) (.tmp 101) (.tmp 113) 34 117 (.agg #[(.int .i64 0), (.int .i64 0)]) 16 rfl Try.underlying34 info117 rfl (by decide) (by omega) (.slice As st.length cs) st (⟨mn (rd s og.f1) (rd s og.f2), mx (rd s og.f1) (rd s og.f2)⟩ : S117) [.int .i64 (mn (rd s og.f1) (rd s og.f2)), .int .i64 (mx (rd s og.f1) (rd s og.f2))] ok_ (fun _ => False) rfl (by first | rfl | (go_simp; done) | (go_simp; rfl)) ?aP (fun _ hk => hk.elim) ?aF ?aO ?aB ?aS ?aL ?_; (case aP => exact k117_mkM _ _ _ (⟨mn (rd s og.f1) (rd s og.f2), mx (rd s og.f1) (rd s og.f2)⟩ : S117)); (case aB => exact (H11.out).bel); (case aF => exact hF_); (case aO => exact hR_); (case aS => exact (H11.out).size); (case aL => have := HMB.out; omega)
          intro v_ w12 ho_ hb_ hg_ ha_; have H12 := Aside0.mk (hX_ _ _ _ ho_ hg_); obtain ⟨A_, c_, rfl⟩ := Kd.zat ho_; simp only [List.set_cons_zero, List.set_cons_succ] at H12; clear ho_ hb_ hg_ ha_ hR_ hF_ hX_
          refine hK.out _ _ ⟨(H12.out).za5 (i := 3) rfl 1 rfl, (H12.out).za5 (i := 4) rfl 0 rfl, (H12.out).za5 (i := 0) rfl 1 rfl, (H12.out).za5 (i := 0) rfl 2 rfl, ((H12.out).zb0 (i := 2) rfl og.f1 (zal HBz1.out).1 (zal HBz1.out).2).1, ((H12.out).zb0 (i := 2) rfl og.f2 (zal HBz2.out).1 (zal HBz2.out).2).1⟩ (fun hHeld => ?_)
          clear hK K
          refine norm_ (a' := ?_) ?_ ?_
          rotate_left
          ·show Act.put _ (some 114) _ = _
           simp only [Act.put, sa_, sb_, sc_, i64_w, i32_w]
           rfl
          refine pure_ (i := 15) (N := some 115) (v := ?_) (a' := ?_) #[true, true, true, true, true, true, true, true, true, true, true, true, true, true, true, true, false] rfl rfl (by kernel_rfl) (fun _ _ _ h => h) (Or.inl ⟨by rfl, ?_⟩) ?_ ?_
          rotate_left
          ·intro w'
           go_simp
           with_reducible rfl
          rotate_left
          ·simp only [Act.put, sa_, sb_, sc_, i64_w, i32_w]
           rfl
          refine last_ (i := 16) (N := none) #[true, true, true, true, true, true, true, true, true, true, true, true, true, true, true, true, true] rfl rfl (by kernel_rfl) (by decide) (fun K hK => ?_)
          have y0 : w12.cell? ⟨g4, 1, none⟩ = some (.slice As st.length cs) := H12.out.za5 (i := 3) rfl 1 rfl
          have y1 := za0 (H12.out.zai (i := 3) rfl) 1
          refine skip_ (w1 := ?_) (by rfl) rfl ?_ ?_
          rotate_left
          ·go_simp
           rfl
          refine hK.out _ _ ?_
          clear hK K
          refine done_ (by kernel_rfl) ?_
          have h13 := H12.out.zas (i := 3) rfl 1 (.slice A_ (st ++ [(⟨mn (rd s og.f1) (rd s og.f2), mx (rd s og.f1) (rd s og.f2)⟩ : S117)]).length c_) rfl
          simp only [List.set_cons_succ, List.set_cons_zero] at h13
          rw [show (st ++ [(⟨mn (rd s og.f1) (rd s og.f2), mx (rd s og.f1) (rd s og.f2)⟩ : S117)]).length = st.length + 1 from by simp] at h13
          generalize w12.setCell ⟨g4, 1, none⟩ (.slice A_ (st.length + 1) c_) = w13 at h13 ⊢
          clear y0 y1 hHeld H12 H11 H HST
          have H := Aside0.mk h13
          clear h13
          have HMY := Aside0.mk (fun (W : World) (hb : W.heap[g4]? = some (.cells #[.int .i64 (l1.length : Int), .slice A_ (st.length + 1) c_, .slice none 0 0] 36 (0, 0))) => many_any g4 36 (l1.length : Int) A_ (st.length + 1) c_ (.slice none 0 0) W hb)
          have hw2 : wrap64 ((l1.length : Int) + ((st.length + 1 : Nat) : Int)) = (l1.length : Int) + (st.length : Int) + 1 := by have := HMB.out; have := HL1.out; unfold wrap64; omega
          rw [hw2] at HMY
          clear hw2
          have hw3 : wrap64 ((l1.length : Int) + (st.length : Int)) = (l1.length : Int) + (st.length : Int) := by have := HMB.out; have := HL1.out; unfold wrap64; omega
          have k0 : (l1.length : Int) + (st.length : Int) + 1 - 1 = (l1.length : Int) + (st.length : Int) := by omega
          have k1 : -9223372036854775808 ≤ (l1.length : Int) + (st.length : Int) := by omega
          have k2 : (l1.length : Int) + (st.length : Int) ≤ 9223372036854775807 := by have := HMB.out; have := HL1.out; omega
          go_wp2_with fail
          refine start_ (n := 7) (S := fun w' => w'.cell? ⟨g5, 0, none⟩ = some (.slice (some ⟨gI, 0, none⟩) n c26) ∧ w'.cell? ⟨gb, 0, none⟩ = some (.int .i64 og.f0)) (ds := [6]) #[false, false, false, false, false, false, false] (by kernel_rfl) rfl rfl ⟨(H.out.drew).za5 (i := 4) rfl 0 rfl, (H.out.drew).za5 (i := 0) rfl 0 rfl⟩ (fun hHeld => ?_)
          refine pure_ (i := 1) (N := some 117) (v := ?_) (a' := ?_) #[false, true, false, false, false, false, false] rfl rfl (by kernel_rfl) (fun _ _ _ h => h) (Or.inl ⟨by rfl, ?_⟩) ?_ ?_
          rotate_left
          ·intro w'
           go_simp
           with_reducible rfl
          rotate_left
          ·simp only [Act.put, sa_, sb_, sc_, i64_w, i32_w]
           rfl
          refine take_ (i := 0) (N := some 116) (v := ?_) (a' := ?_) #[true, true, false, false, false, false, false] rfl rfl (by kernel_rfl) (fun _ _ _ h => h) (Or.inl ⟨by rfl, ?_⟩) hHeld ?_ ?_
          rotate_left
          ·rintro w' ⟨s0, s1⟩
           go_simp
           with_reducible rfl
          rotate_left
          ·simp only [Act.put, sa_, sb_, sc_, i64_w, i32_w]
           rfl
          refine take_ (i := 2) (N := some 118) (v := ?_) (a' := ?_) #[true, true, true, false, false, false, false] rfl rfl (by kernel_rfl) (fun _ _ _ h => h) (Or.inl ⟨by rfl, ?_⟩) hHeld ?_ ?_
          rotate_left
          ·rintro w' ⟨s0, s1⟩
           go_simp
           with_reducible rfl
          rotate_left
          ·simp only [Act.put, sa_, sb_, sc_, i64_w, i32_w]
           rfl
          refine one_ (i := 3) (N := some 119) #[true, true, true, true, false, false, false] rfl rfl (by kernel_rfl) (by decide) (fun K hK => ?_)
          refine goes_ Try.func119 (by kernel_rfl) rfl #[.pointer (some ⟨g4, 0, none⟩)] (by rfl) rfl rfl (by simp only [List.map_toArray, List.map_cons, List.map_nil]; rfl) ?_
          with_reducible refine (HMY.out _ (H.out.drew.zai (i := 3) rfl)).mono ?_
          rintro e w10 ⟨rfl, hb_⟩
          refine ⟨_, rfl, ?_⟩
          have H11 := Aside0.mk (H.out.drew.below hb_)
          clear hb_
          refine hK.out _ _ ⟨(H11.out).za5 (i := 4) rfl 0 rfl, (H11.out).za5 (i := 0) rfl 0 rfl⟩ (fun hHeld => ?_)
          clear hK K
          refine norm_ (a' := ?_) ?_ ?_
          rotate_left
          ·show Act.put _ (some 119) _ = _
           simp only [Act.put, sa_, sb_, sc_, i64_w, i32_w]
           rfl
          refine pure_ (i := 4) (N := some 120) (v := ?_) (a' := ?_) #[true, true, true, true, true, false, false] rfl rfl (by kernel_rfl) (fun _ _ _ h => h) (Or.inl ⟨by rfl, ?_⟩) ?_ ?_
          rotate_left
          ·intro w'
           go_simp
           with_reducible rfl
          rotate_left
          ·simp only [Act.put, sa_, sb_, sc_, i64_w, i32_w]
           rfl
          refine pure_ (i := 5) (N := some 121) (v := ?_) (a' := ?_) #[true, true, true, true, true, true, false] rfl rfl (by kernel_rfl) (fun _ _ _ h => h) (Or.inl ⟨by rfl, ?_⟩) ?_ ?_
          rotate_left
          ·intro w'
           go_simp
           with_reducible rfl
          rotate_left
          ·simp only [Act.put, sa_, sb_, sc_, i64_w, i32_w]
           rfl
          refine last_ (i := 6) (N := none) #[true, true, true, true, true, true, true] rfl rfl (by kernel_rfl) (by decide) (fun K hK => ?_)
          have y0 := (H11.out.zb0 (i := 2) rfl og.f0 (zal HBz0.out).1 (zal HBz0.out).2).1
          have y1 := (H11.out.zb0 (i := 2) rfl og.f0 (zal HBz0.out).1 (zal HBz0.out).2).2
          refine skip_ (w1 := ?_) (by rfl) rfl ?_ ?_
          rotate_left
          ·go_simp
           rfl
          refine hK.out _ _ ?_
          clear hK K
          refine done_ (by kernel_rfl) ?_
          have h9 := (H11.out.int_set (i := 2) rfl og.f0 ((l1.length : Int) + (st.length : Int))).drop
          simp only [List.set_cons_succ, List.set_cons_zero] at h9
          have H12 := Aside0.mk h9
          clear h9 y0 y1 hHeld H11 H HMY k0 k1 k2 hw3
          go_wp2
          go_roundg d
          case measure => omega
          case rel => exact ⟨j + 1, _, st ++ [(⟨mn (rd s og.f1) (rd s og.f2), mx (rd s og.f1) (rd s og.f2)⟩ : S117)], A_, c_, by go_num, HE, ⟨by have := HM.out; rw [List.length_set]; simp; omega⟩, ⟨by simpa using H12.out⟩⟩
    | zero =>
     have hm := HM.out
     have c0_ : decide ((j : Int) < (l2.length : Int)) = false := decide_eq_false (by omega)
     have c1_ : decide (j < l2.length) = false := decide_eq_false (by omega)
     clear hm
     have he := HE.out
     simp only [rdB] at he
     have HE0 := Aside0.mk he
     have H5 := Aside0.mk (H.out.row_nil (Kd.int .i64) 3)
     have HS0 := Aside0.mk HM.out.2
     clear he HE HM H
     have b3 : wr.cell? ⟨g0, 3, none⟩ = some (.slice A3 l3.length c3) := za1 (za7 BK0.out (H5.out).bel) 3
     go_wp2_with fail
     clear b3
     go_loopg [128] l3.length (fun d v128 w' => ∃ (j : Nat) (os : List Int) (Ao : Option Addr) (co : Nat), v128 = .int .i64 (j : Int) ∧ Aside0 (rdC a0 n l1.length s st l3 d j os = (r1, r2, r3, r4)) ∧ Aside0 (j + d = l3.length ∧ os.length = j) ∧ Aside0 (Fr w w (fun _ => False) [row (Kd.int .i64) 3 (.slice Ao os.length co) os, row k117 117 (.slice As st.length cs) st, row (Kd.int .i64) 3 (.slice A26 n c26) s, box g4 36 #[.int .i64 (l1.length : Int), .slice As st.length cs, .slice Ao os.length co], box g5 22 #[.slice A26 n c26], box g2 36 #[.int .i64 0, .slice none 0 0, .slice none 0 0]] w'))
     case atStart => exact ⟨0, [], none, 0, rfl, HE0, ⟨by simp⟩, H5⟩
     case round =>
      clear HE0 H5
      obtain ⟨j, os, Ao, co, rfl, HE, HM, H⟩ := hrel
      cases gk with
      | succ d =>
       have hm := HM.out
       have hl_ := HL3.out
       have c0_ : decide ((j : Int) < (l3.length : Int)) = true := decide_eq_true (by omega)
       have c1_ : decide (j < l3.length) = true := decide_eq_true (by omega)
       have q1 : ((j : Int) < (l3.length : Int)) = True := eq_true (by omega)
       have q2 : (j < l3.length) = True := eq_true (by omega)
       have hw1 : wrap64 ((j : Int) + 1) = (j : Int) + 1 := by unfold wrap64; omega
       obtain ⟨ad3, e1, hx⟩ := Kd.at_int (Kd.zac HC3.out H.out.bel) (j : Int) (by omega) (by omega)
       cases e1
       rw [Int.toNat_natCast] at hx
       have he := HE.out
       simp only [rdC] at he
       obtain ⟨r, hr⟩ : ∃ r, rd l3 (j : Int) = r := ⟨_, rfl⟩
       rw [hr] at he hx
       clear hr hm hl_ HE
       cases hb : hasB n r with
       | false =>
        rw [if_neg (by simp [hb])] at he
        have HF := Aside0.mk he
        clear he
        go_wp2_with (go_at_call 170; refine (read1_calls g5 22 n c26 _ _ _ (by have := HNN.out; omega) (H.out.zai (i := 4) rfl)).mono ?_; rintro e wh ⟨rfl, hb_⟩; have H_ := Aside0.mk (H.out.below hb_); clear hb_ H; have H := H_; clear H_; have s2_0 : wh.cell? ⟨g2, 0, none⟩ = some (.int .i64 0) := (H.out).za5 (i := 5) rfl 0 rfl; have f2_0 := za0 ((H.out).zai (i := 5) rfl) 0; have s2_1 : wh.cell? ⟨g2, 1, none⟩ = some (.slice none 0 0) := (H.out).za5 (i := 5) rfl 1 rfl; have f2_1 := za0 ((H.out).zai (i := 5) rfl) 1; have s2_2 : wh.cell? ⟨g2, 2, none⟩ = some (.slice none 0 0) := (H.out).za5 (i := 5) rfl 2 rfl; have f2_2 := za0 ((H.out).zai (i := 5) rfl) 2)
        have h4 := (((H.out).zas (i := 5) rfl 0 (.int .i64 0) rfl).zas (i := 5) rfl 1 (.slice none 0 0) rfl).zas (i := 5) rfl 2 (.slice none 0 0) rfl
        refine bodyPost_ret (results_ct rfl _ _ g2 36 #[.int .i64 0, .slice none 0 0, .slice none 0 0] (0, 0) _ rfl (h4.zai (i := 5) rfl) Try.underlying36 rfl (by kernel_rfl)) rfl ?_
        obtain ⟨rfl, rfl, rfl, rfl⟩ : r1 = 0 ∧ r2 = [] ∧ r3 = [] ∧ r4 = false := by have h9 := HF.out; simp only [Prod.mk.injEq] at h9; exact ⟨h9.1.symm, h9.2.1.symm, h9.2.2.1.symm, h9.2.2.2.symm⟩
        exact ⟨_, _, rfl, Kd.R_nil _ _ _ _ _, Kd.R_nil _ _ _ _ _, h4.bel⟩
       | true =>
        obtain ⟨gI, cI, e26⟩ := H.out.row_head (i := 2) rfl (by have := zal hb; have := HS0.out; omega)
        injection e26 with e26a e26n e26b
        clear e26n
        subst e26a
        subst e26b
        have p1 : (0 ≤ r) = True := eq_true (zal hb).1
        have p2 : (r < (n : Int)) = True := eq_true (zal hb).2
        have HBz1 := Aside0.mk hb
        by_cases hv : rd s r = -1
        ·rw [if_neg (fun h => h.2 hv)] at he
         have HF := Aside0.mk he
         have cB : (rd s r == -1) = true := by simp [hv]
         clear he hv
         go_wp2_with (go_at_call 170; refine (read1_calls g5 22 n c26 _ _ _ (by have := HNN.out; omega) (H.out.zai (i := 4) rfl)).mono ?_; rintro e wh ⟨rfl, hb_⟩; have H_ := Aside0.mk (H.out.below hb_); clear hb_ H; have H := H_; clear H_; have y5 : wh.cell? ⟨g5, 0, none⟩ = some (.slice (some ⟨gI, 0, none⟩) n c26) := (H.out).za5 (i := 4) rfl 0 rfl; have z1 := (H.out.zb0 (i := 2) rfl r (zal HBz1.out).1 (zal HBz1.out).2).1; have z1f := (H.out.zb0 (i := 2) rfl r (zal HBz1.out).1 (zal HBz1.out).2).2; have s2_0 : wh.cell? ⟨g2, 0, none⟩ = some (.int .i64 0) := (H.out).za5 (i := 5) rfl 0 rfl; have f2_0 := za0 ((H.out).zai (i := 5) rfl) 0; have s2_1 : wh.cell? ⟨g2, 1, none⟩ = some (.slice none 0 0) := (H.out).za5 (i := 5) rfl 1 rfl; have f2_1 := za0 ((H.out).zai (i := 5) rfl) 1; have s2_2 : wh.cell? ⟨g2, 2, none⟩ = some (.slice none 0 0) := (H.out).za5 (i := 5) rfl 2 rfl; have f2_2 := za0 ((H.out).zai (i := 5) rfl) 2)
         have h4 := (((H.out).zas (i := 5) rfl 0 (.int .i64 0) rfl).zas (i := 5) rfl 1 (.slice none 0 0) rfl).zas (i := 5) rfl 2 (.slice none 0 0) rfl
         refine bodyPost_ret (results_ct rfl _ _ g2 36 #[.int .i64 0, .slice none 0 0, .slice none 0 0] (0, 0) _ rfl (h4.zai (i := 5) rfl) Try.underlying36 rfl (by kernel_rfl)) rfl ?_
         obtain ⟨rfl, rfl, rfl, rfl⟩ : r1 = 0 ∧ r2 = [] ∧ r3 = [] ∧ r4 = false := by have h9 := HF.out; simp only [Prod.mk.injEq] at h9; exact ⟨h9.1.symm, h9.2.1.symm, h9.2.2.1.symm, h9.2.2.2.symm⟩
         exact ⟨_, _, rfl, Kd.R_nil _ _ _ _ _, Kd.R_nil _ _ _ _ _, h4.bel⟩
        ·rw [if_pos ⟨hb, hv⟩] at he
         have HE := Aside0.mk he
         have cB : (rd s r == -1) = false := by simp [hv]
         have HMB := Aside0.mk (show os.length + 1 ≤ 1000000 by have := HM.out; have := HL3.out; omega)
         clear he hv
         go_wp2_with (go_at_call 170; refine (read1_calls g5 22 n c26 _ _ _ (by have := HNN.out; omega) (H.out.zai (i := 4) rfl)).mono ?_; rintro e wh ⟨rfl, hb_⟩; have H_ := Aside0.mk (H.out.below hb_); clear hb_ H; have H := H_; clear H_; have y5 : wh.cell? ⟨g5, 0, none⟩ = some (.slice (some ⟨gI, 0, none⟩) n c26) := (H.out).za5 (i := 4) rfl 0 rfl; have z1 := (H.out.zb0 (i := 2) rfl r (zal HBz1.out).1 (zal HBz1.out).2).1; have z1f := (H.out.zb0 (i := 2) rfl r (zal HBz1.out).1 (zal HBz1.out).2).2)
         clear y5 z1 z1f
         refine start_ (n := 10) (S := fun w' => w'.cell? ⟨g4, 2, none⟩ = some (.slice Ao os.length co) ∧ w'.cell? ⟨g5, 0, none⟩ = some (.slice (some ⟨gI, 0, none⟩) n c26) ∧ w'.cell? ⟨gI, r.toNat, none⟩ = some (.int .i64 (rd s r))) (ds := [9]) #[false, false, false, false, false, false, false, false, false, false] (by kernel_rfl) rfl rfl ⟨(H.out.drew).za5 (i := 3) rfl 2 rfl, (H.out.drew).za5 (i := 4) rfl 0 rfl, ((H.out.drew).zb0 (i := 2) rfl r (zal HBz1.out).1 (zal HBz1.out).2).1⟩ (fun hHeld => ?_)
         refine pure_ (i := 0) (N := some 144) (v := ?_) (a' := ?_) #[true, false, false, false, false, false, false, false, false, false] rfl rfl (by kernel_rfl) (fun _ _ _ h => h) (Or.inl ⟨by rfl, ?_⟩) ?_ ?_
         rotate_left
         ·intro w'
          go_simp
          with_reducible rfl
         rotate_left
         ·simp only [Act.put, sa_, sb_, sc_, i64_w, i32_w]
          rfl
         refine pure_ (i := 3) (N := some 147) (v := ?_) (a' := ?_) #[true, false, false, true, false, false, false, false, false, false] rfl rfl (by kernel_rfl) (fun _ _ _ h => h) (Or.inl ⟨by rfl, ?_⟩) ?_ ?_
         rotate_left
         ·intro w'
          go_simp
          with_reducible rfl
         rotate_left
         ·simp only [Act.put, sa_, sb_, sc_, i64_w, i32_w]
          rfl
         refine take_ (i := 1) (N := some 145) (v := ?_) (a' := ?_) #[true, true, false, true, false, false, false, false, false, false] rfl rfl (by kernel_rfl) (fun _ _ _ h => h) (Or.inl ⟨by rfl, ?_⟩) hHeld ?_ ?_
         rotate_left
         ·rintro w' ⟨s0, s1, s2⟩
          go_simp
          with_reducible rfl
         rotate_left
         ·simp only [Act.put, sa_, sb_, sc_, i64_w, i32_w]
          rfl
         refine take_ (i := 2) (N := some 146) (v := ?_) (a' := ?_) #[true, true, true, true, false, false, false, false, false, false] rfl rfl (by kernel_rfl) (fun _ _ _ h => h) (Or.inl ⟨by rfl, ?_⟩) hHeld ?_ ?_
         rotate_left
         ·rintro w' ⟨s0, s1, s2⟩
          go_simp
          with_reducible rfl
         rotate_left
         ·simp only [Act.put, sa_, sb_, sc_, i64_w, i32_w]
          rfl
         refine pure_ (i := 4) (N := some 148) (v := ?_) (a' := ?_) #[true, true, true, true, true, false, false, false, false, false] rfl rfl (by kernel_rfl) (fun _ _ _ h => h) (Or.inl ⟨by rfl, ?_⟩) ?_ ?_
         rotate_left
         ·intro w'
          go_simp
          with_reducible rfl
         rotate_left
         ·simp only [Act.put, sa_, sb_, sc_, i64_w, i32_w]
          rfl
         refine take_ (i := 5) (N := some 149) (v := ?_) (a' := ?_) #[true, true, true, true, true, true, false, false, false, false] rfl rfl (by kernel_rfl) (fun _ _ _ h => h) (Or.inl ⟨by rfl, ?_⟩) hHeld ?_ ?_
         rotate_left
         ·rintro w' ⟨s0, s1, s2⟩
          go_simp
          with_reducible rfl
         rotate_left
         ·simp only [Act.put, sa_, sb_, sc_, i64_w, i32_w]
          rfl
         refine one_ (i := 6) (N := some 150) #[true, true, true, true, true, true, true, false, false, false] rfl rfl (by kernel_rfl) (by decide) (fun K hK => ?_)
         refine value_ (w1 := ?_) (v := ?_) (by rfl) rfl ?_ ?_
         rotate_left 2
         ·go_simp
          constructor
          ·rfl
          ·rfl
         refine hK.out _ _ ⟨((H.out.drew.alloc _)).za5 (i := 3) rfl 2 rfl, ((H.out.drew.alloc _)).za5 (i := 4) rfl 0 rfl, (((H.out.drew.alloc _)).zb0 (i := 2) rfl r (zal HBz1.out).1 (zal HBz1.out).2).1⟩ (fun hHeld => ?_)
         clear hK K
         refine norm_ (a' := ?_) ?_ ?_
         rotate_left
         ·show Act.put _ (some 150) _ = _
          simp only [Act.put, sa_, sb_, sc_, i64_w, i32_w]
          rfl
         refine one_ (i := 7) (N := some 151) #[true, true, true, true, true, true, true, true, false, false] rfl rfl (by kernel_rfl) (by decide) (fun K hK => ?_)
         obtain ⟨ok_, hR_, hF_, hX_⟩ := (H.out.drew).row_append (i := 0) rfl
         refine Kd.R_append_step (Kd.int .i64) (w0 := w) (W := wh.drew) w.heap.size (by rfl) (.tmp 145) (.tmp 150) 22 3 (.int .i64 0) 8 rfl Try.underlying22 info3 rfl (by decide) (by omega) (.slice Ao os.length co) os (rd s r) [.int .i64 (rd s r)] ok_ (fun _ => False) rfl (by first | rfl | (go_simp; done) | (go_simp; rfl)) ?aP (fun _ hk => hk.elim) ?aF ?aO ?aB ?aS ?aL ?_; (case aP => exact rfl); (case aB => exact (H.out.drew).bel); (case aF => exact hF_); (case aO => exact hR_); (case aS => exact (H.out.drew).size); (case aL => have := HMB.out; omega)
         intro v_ w12 ho_ hb_ hg_ ha_; have H12 := Aside0.mk (hX_ _ _ _ ho_ hg_); obtain ⟨A_, c_, rfl⟩ := Kd.zat ho_; simp only [List.set_cons_zero, List.set_cons_succ] at H12; clear ho_ hb_ hg_ ha_ hR_ hF_ hX_
         refine hK.out _ _ ⟨(H12.out).za5 (i := 3) rfl 2 rfl, (H12.out).za5 (i := 4) rfl 0 rfl, ((H12.out).zb0 (i := 2) rfl r (zal HBz1.out).1 (zal HBz1.out).2).1⟩ (fun hHeld => ?_)
         clear hK K
         refine norm_ (a' := ?_) ?_ ?_
         rotate_left
         ·show Act.put _ (some 151) _ = _
          simp only [Act.put, sa_, sb_, sc_, i64_w, i32_w]
          rfl
         refine pure_ (i := 8) (N := some 152) (v := ?_) (a' := ?_) #[true, true, true, true, true, true, true, true, true, false] rfl rfl (by kernel_rfl) (fun _ _ _ h => h) (Or.inl ⟨by rfl, ?_⟩) ?_ ?_
         rotate_left
         ·intro w'
          go_simp
          with_reducible rfl
         rotate_left
         ·simp only [Act.put, sa_, sb_, sc_, i64_w, i32_w]
          rfl
         refine last_ (i := 9) (N := none) #[true, true, true, true, true, true, true, true, true, true] rfl rfl (by kernel_rfl) (by decide) (fun K hK => ?_)
         have y0 : w12.cell? ⟨g4, 2, none⟩ = some (.slice Ao os.length co) := H12.out.za5 (i := 3) rfl 2 rfl
         have y1 := za0 (H12.out.zai (i := 3) rfl) 2
         refine skip_ (w1 := ?_) (by rfl) rfl ?_ ?_
         rotate_left
         ·go_simp
          rfl
         refine hK.out _ _ ?_
         clear hK K
         refine done_ (by kernel_rfl) ?_
         have h13 := H12.out.zas (i := 3) rfl 2 (.slice A_ (os ++ [rd s r]).length c_) rfl
         simp only [List.set_cons_succ, List.set_cons_zero] at h13
         rw [show (os ++ [rd s r]).length = os.length + 1 from by simp] at h13
         generalize w12.setCell ⟨g4, 2, none⟩ (.slice A_ (os.length + 1) c_) = w13 at h13 ⊢
         clear y0 y1 hHeld H12 H
         have H := Aside0.mk h13
         clear h13
         go_wp2
         go_roundg d
         case measure => omega
         case rel => exact ⟨j + 1, os ++ [rd s r], A_, c_, by go_num, HE, ⟨by have := HM.out; simp; omega⟩, ⟨by simpa using H.out⟩⟩
      | zero =>
       have hm := HM.out
       have c0_ : decide ((j : Int) < (l3.length : Int)) = false := decide_eq_false (by omega)
       have c1_ : decide (j < l3.length) = false := decide_eq_false (by omega)
       clear hm
       have he := HE.out
       simp only [rdC] at he
       obtain ⟨bb, hbb⟩ : ∃ bb, (decide (1 ≤ a0) && decide (a0 ≤ 46)) = bb := ⟨_, rfl⟩
       have HIN := Aside0.mk (fun (W : World) => impl_in.calls a0 1 46 bb W (by rw [← hbb]; unfold impl_in.f; by_cases h0 : 1 ≤ a0 <;> simp [h0]))
       rw [hbb] at he
       simp only [Prod.mk.injEq] at he
       obtain ⟨rfl, rfl, rfl, rfl⟩ := he
       clear hbb HE
       go_wp2_with fail
       refine start_ (n := 8) (S := fun w' => w'.cell? ⟨g4, 0, none⟩ = some (.int .i64 (l1.length : Int)) ∧ w'.cell? ⟨g4, 1, none⟩ = some (.slice As st.length cs) ∧ w'.cell? ⟨g4, 2, none⟩ = some (.slice Ao os.length co) ∧ w'.cell? ⟨g0, 0, none⟩ = some (.int .i64 a0)) (ds := [6]) #[false, false, false, false, false, false, false, false] (by kernel_rfl) rfl rfl ⟨(H.out.drew).za5 (i := 3) rfl 0 rfl, (H.out.drew).za5 (i := 3) rfl 1 rfl, (H.out.drew).za5 (i := 3) rfl 2 rfl, za1 (za7 BK0.out (H.out.drew).bel) 0⟩ (fun hHeld => ?_)
       refine pure_ (i := 1) (N := some 155) (v := ?_) (a' := ?_) #[false, true, false, false, false, false, false, false] rfl rfl (by kernel_rfl) (fun _ _ _ h => h) (Or.inl ⟨by rfl, ?_⟩) ?_ ?_
       rotate_left
       ·intro w'
        go_simp
        with_reducible rfl
       rotate_left
       ·simp only [Act.put, sa_, sb_, sc_, i64_w, i32_w]
        rfl
       refine pure_ (i := 2) (N := some 156) (v := ?_) (a' := ?_) #[false, true, true, false, false, false, false, false] rfl rfl (by kernel_rfl) (fun _ _ _ h => h) (Or.inl ⟨by rfl, ?_⟩) ?_ ?_
       rotate_left
       ·intro w'
        go_simp
        with_reducible rfl
       rotate_left
       ·simp only [Act.put, sa_, sb_, sc_, i64_w, i32_w]
        rfl
       refine pure_ (i := 3) (N := some 157) (v := ?_) (a' := ?_) #[false, true, true, true, false, false, false, false] rfl rfl (by kernel_rfl) (fun _ _ _ h => h) (Or.inl ⟨by rfl, ?_⟩) ?_ ?_
       rotate_left
       ·intro w'
        go_simp
        with_reducible rfl
       rotate_left
       ·simp only [Act.put, sa_, sb_, sc_, i64_w, i32_w]
        rfl
       refine take_ (i := 0) (N := some 154) (v := ?_) (a' := ?_) #[true, true, true, true, false, false, false, false] rfl rfl (by kernel_rfl) (fun _ _ _ h => h) (Or.inl ⟨by rfl, ?_⟩) hHeld ?_ ?_
       rotate_left
       ·rintro w' ⟨s0, s1, s2, s3⟩
        go_simp
        with_reducible rfl
       rotate_left
       ·simp only [Act.put, sa_, sb_, sc_, i64_w, i32_w]
        rfl
       refine take_ (i := 4) (N := some 158) (v := ?_) (a' := ?_) #[true, true, true, true, true, false, false, false] rfl rfl (by kernel_rfl) (fun _ _ _ h => h) (Or.inl ⟨by rfl, ?_⟩) hHeld ?_ ?_
       rotate_left
       ·rintro w' ⟨s0, s1, s2, s3⟩
        go_simp
        with_reducible rfl
       rotate_left
       ·simp only [Act.put, sa_, sb_, sc_, i64_w, i32_w]
        rfl
       refine one_ (i := 5) (N := some 159) #[true, true, true, true, true, true, false, false] rfl rfl (by kernel_rfl) (by decide) (fun K hK => ?_)
       refine goes_ Try.func83 (by kernel_rfl) rfl #[.int .i64 a0, .int .i64 1, .int .i64 46] (by rfl) rfl rfl (by simp only [List.map_toArray, List.map_cons, List.map_nil]; rfl) ?_
       with_reducible refine (HIN.out _).mono ?_
       rintro e w10 ⟨rfl, ⟨nd, rfl⟩⟩
       refine ⟨_, rfl, ?_⟩
       have H11 := Aside0.mk (H.out.drew.drewN nd)
       refine hK.out _ _ ⟨(H11.out).za5 (i := 3) rfl 0 rfl, (H11.out).za5 (i := 3) rfl 1 rfl, (H11.out).za5 (i := 3) rfl 2 rfl, za1 (za7 BK0.out (H11.out).bel) 0⟩ (fun hHeld => ?_)
       clear hK K
       refine norm_ (a' := ?_) ?_ ?_
       rotate_left
       ·show Act.put _ (some 159) _ = _
        simp only [Act.put, sa_, sb_, sc_, i64_w, i32_w]
        rfl
       refine last_ (i := 6) (N := none) #[true, true, true, true, true, true, true, false] rfl rfl (by kernel_rfl) (by decide) (fun K hK => ?_)
       have s2_0 : wr.cell? ⟨g2, 0, none⟩ = some (.int .i64 0) := (H.out).za5 (i := 5) rfl 0 rfl
       have f2_0 := za0 ((H.out).zai (i := 5) rfl) 0
       have s2_1 : wr.cell? ⟨g2, 1, none⟩ = some (.slice none 0 0) := (H.out).za5 (i := 5) rfl 1 rfl
       have f2_1 := za0 ((H.out).zai (i := 5) rfl) 1
       have s2_2 : wr.cell? ⟨g2, 2, none⟩ = some (.slice none 0 0) := (H.out).za5 (i := 5) rfl 2 rfl
       have f2_2 := za0 ((H.out).zai (i := 5) rfl) 2
       refine skip_ (w1 := ?_) (by rfl) rfl ?_ ?_
       rotate_left
       ·go_simp
        rfl
       refine hK.out _ _ ?_
       clear hK K
       refine pure_ (i := 7) (N := some 3) (v := ?_) (a' := ?_) #[true, true, true, true, true, true, true, true] rfl rfl (by kernel_rfl) (fun _ _ _ h => h) (Or.inl ⟨by rfl, ?_⟩) ?_ ?_
       rotate_left
       ·intro w'
        go_simp
        with_reducible rfl
       rotate_left
       ·simp only [Act.put, sa_, sb_, sc_, i64_w, i32_w]
        rfl
       refine done_ (by kernel_rfl) ?_
       go_wp2
       have h4 := (((H.out.drewN (1 + nd)).zas (i := 5) rfl 0 (.int .i64 (l1.length : Int)) rfl).zas (i := 5) rfl 1 (.slice As st.length cs) rfl).zas (i := 5) rfl 2 (.slice Ao os.length co) rfl
       simp only [List.set_cons_succ, List.set_cons_zero] at h4
       refine bodyPost_ret (results_ct rfl _ _ g2 36 #[.int .i64 (l1.length : Int), .slice As st.length cs, .slice Ao os.length co] (0, 0) _ rfl (h4.zai (i := 5) rfl) Try.underlying36 rfl (by kernel_rfl)) rfl ?_
       exact ⟨_, _, rfl, h4.row_R (i := 1) rfl, h4.row_R (i := 0) rfl, h4.bel⟩

/-! ### impl_RegCode_plan: function 60 -/
def impl_RegCode_plan.j0 : Nat → Bool → Int → List Int → List (S80) → List Int → Option (Int × (List (S117)) × List Int × Bool)
 | 0, _, _, _, _, _ => none
 | k + 1, x27, x1000, x1001, x1002, x1003 => if x27 = true then (some (0, ([] : List (S117)), ([] : List Int), false)) else ((impl_RegCode_read.f x1000 x1001 x1002 x1003).bind fun bt272 => (if bt272.2.2.2 = true then ((impl_told.f k bt272.1 bt272.2.1 bt272.2.2.1).bind fun bt281 => (some (bt281.1, bt281.2.1, bt281.2.2.1, bt281.2.2.2))) else (some (0, ([] : List (S117)), ([] : List Int), false))))
def impl_RegCode_plan.f (k : Nat) (a0_0 : Int) (l0_1 : List Int) (l0_2 : List (S80)) (l0_3 : List Int) : Option (Int × (List (S117)) × List Int × Bool) := if (l0_1.length : Int) > 6 then (impl_RegCode_plan.j0 k true a0_0 l0_1 l0_2 l0_3) else (if (l0_2.length : Int) > 40 then (impl_RegCode_plan.j0 k true a0_0 l0_1 l0_2 l0_3) else (impl_RegCode_plan.j0 k (decide ((l0_3.length : Int) > 6)) a0_0 l0_1 l0_2 l0_3))
theorem impl_RegCode_plan.zb5 : ∀ k, (∀ y0 y1 y2 y3 y4, LeO (impl_RegCode_plan.j0 k y0 y1 y2 y3 y4) (impl_RegCode_plan.j0 (k + 1) y0 y1 y2 y3 y4))
 | 0 => fun _ _ _ _ _ r h => by simp [impl_RegCode_plan.j0] at h
 | k + 1 => by
  have ih0 := impl_RegCode_plan.zb5 k
  ·intro y0 y1 y2 y3 y4
   unfold impl_RegCode_plan.j0
   repeat' first
   | (with_reducible exact ih0 _ _ _ _ _)
   | (with_reducible exact impl_told.mono _ _ _ _)
   | (with_reducible exact LeO.refl _)
   | (with_reducible exact LeO.none _)
   | (with_reducible refine LeO.ite ?_ ?_)
   | (with_reducible refine LeO.bind ?_ (fun _ => ?_))
   | exact ih0 _ _ _ _ _
   | exact impl_told.mono _ _ _ _
   | exact LeO.none _
   | refine LeO.ite ?_ ?_
   | refine LeO.bind ?_ (fun _ => ?_)
theorem impl_RegCode_plan.mono : ∀ a0 a1 a2 a3 k, LeO (impl_RegCode_plan.f k a0 a1 a2 a3) (impl_RegCode_plan.f (k + 1) a0 a1 a2 a3) := by
 intro a0 a1 a2 a3 k
 have ih0 := impl_RegCode_plan.zb5 k
 unfold impl_RegCode_plan.f
 repeat' first
   | (with_reducible exact ih0 _ _ _ _ _)
   | (with_reducible exact impl_told.mono _ _ _ _)
   | (with_reducible exact LeO.refl _)
   | (with_reducible exact LeO.none _)
   | (with_reducible refine LeO.ite ?_ ?_)
   | (with_reducible refine LeO.bind ?_ (fun _ => ?_))
   | exact ih0 _ _ _ _ _
   | exact impl_told.mono _ _ _ _
   | exact LeO.none _
   | refine LeO.ite ?_ ?_
   | refine LeO.bind ?_ (fun _ => ?_)
set_option maxHeartbeats 8000000 in
set_option maxRecDepth 100000 in
theorem impl_RegCode_plan.calls (k : Nat) (g0 : Nat) (a0_0 : Int) (A0_1 : Option Addr) (c0_1 : Nat) (l0_1 : List Int) (A0_2 : Option Addr) (c0_2 : Nat) (l0_2 : List (S80)) (A0_3 : Option Addr) (c0_3 : Nat) (l0_3 : List Int) (r1 : Int) (r2 : List (S117)) (r3 : List Int) (r4 : Bool) (w : World) (hb0 : w.heap[g0]? = some (.cells #[.int .i64 a0_0, .slice A0_1 l0_1.length c0_1, .slice A0_2 l0_2.length c0_2, .slice A0_3 l0_3.length c0_3] 30 (0, 0))) (hr0_1 : Kd.C (Kd.int .i64) w A0_1 l0_1.length l0_1) (hc0_1 : l0_1.length ≤ c0_1) (hr0_2 : Kd.C k80 w A0_2 l0_2.length l0_2) (hc0_2 : l0_2.length ≤ c0_2) (hr0_3 : Kd.C (Kd.int .i64) w A0_3 l0_3.length l0_3) (hc0_3 : l0_3.length ≤ c0_3) (h : impl_RegCode_plan.f k a0_0 l0_1 l0_2 l0_3 = some (r1, r2, r3, r4)) :
  Calls Try.prog 60 #[.pointer (some ⟨g0, 0, none⟩)] w fun e w' => ∃ v1_ v2_ : Value, e = .returned (.tuple #[.agg #[.int .i64 r1, v1_, v2_], .bool r4]) ∧ Kd.R k117 117 w' w.heap.size (fun _ => True) v1_ r2 ∧ Kd.R (Kd.int .i64) 3 w' w.heap.size (fun _ => True) v2_ r3 ∧ Below w.heap.size w w' := by
 have hu36 := Try.underlying36
 have HR0_1 := Aside0.mk hr0_1
 have HC0_1 := Aside0.mk hc0_1
 clear hr0_1 hc0_1
 have HR0_2 := Aside0.mk hr0_2
 have HC0_2 := Aside0.mk hc0_2
 clear hr0_2 hc0_2
 have HR0_3 := Aside0.mk hr0_3
 have HC0_3 := Aside0.mk hc0_3
 clear hr0_3 hc0_3
 have BK0 := Aside0.mk hb0
 clear hb0
 have HB := Aside0.mk (Below.refl w.heap.size w)
 have H : (if (l0_1.length : Int) > 6 then (impl_RegCode_plan.j0 k true a0_0 l0_1 l0_2 l0_3) else (if (l0_2.length : Int) > 40 then (impl_RegCode_plan.j0 k true a0_0 l0_1 l0_2 l0_3) else (impl_RegCode_plan.j0 k (decide ((l0_3.length : Int) > 6)) a0_0 l0_1 l0_2 l0_3))) = some (r1, r2, r3, r4) := h
 clear h
 have HC2 := Aside0.mk H
 clear H
 go_enter Try.func60, Try.ntmps60
 go_upto_region 1 with (first | ((with_reducible refine zaf (N := 2) rfl ?_); (try (refine gate_guard (by rfl) ?_; dsimp only)); refine zad ?hg (N := 2) ?hd (cs := #[.int .i64 0, .slice none 0 0, .slice none 0 0]) (t := 36) ?hr ?_; (case hd => rfl); (case hg => rfl); (case hr => first | (go_simp; done) | (go_simp; rfl)); intro gb271 hg w3 hbox hb; have n0_ := Aside0.mk (za7 (g := g0) (o := .cells #[.int .i64 a0_0, .slice A0_1 l0_1.length c0_1, .slice A0_2 l0_2.length c0_2, .slice A0_3 l0_3.length c0_3] 30 (0, 0)) (by (with_reducible repeat (first | refine za3 ?_ _ | refine za4 ?_ | refine za2 ?_ _)); exact BK0.out) hb); have n1_ := Aside0.mk (za8 bw_ hb); have n2_ := Aside0.mk (hbox); have n3_ := Aside0.mk ((by rw [hg]; exact (za6 bw_) : w.heap.size ≤ gb271)); have n4_ := Aside0.mk ((by rw [hg]; exact (za6 bw_) : w.heap.size ≤ gb271)); have n5_ := Aside0.mk ((by rw [hg]; exact Nat.ne_of_lt (zan (g := g0) (o := .cells #[.int .i64 a0_0, .slice A0_1 l0_1.length c0_1, .slice A0_2 l0_2.length c0_2, .slice A0_3 l0_3.length c0_3] 30 (0, 0)) (by (with_reducible repeat (first | refine za3 ?_ _ | refine za4 ?_ | refine za2 ?_ _)); exact BK0.out)) : g0 ≠ gb271)); have n6_ := Aside0.mk ((by rw [hg]; exact Nat.ne_of_gt (zan (g := g0) (o := .cells #[.int .i64 a0_0, .slice A0_1 l0_1.length c0_1, .slice A0_2 l0_2.length c0_2, .slice A0_3 l0_3.length c0_3] 30 (0, 0)) (by (with_reducible repeat (first | refine za3 ?_ _ | refine za4 ?_ | refine za2 ?_ _)); exact BK0.out)) : gb271 ≠ g0)); clear BK0; clear HB; have BK0 := n0_; have HB := n1_; have BK271 := n2_; have GW271 := n3_; have GE271 := n4_; have NB0_271 := n5_; have NB271_0 := n6_; clear n0_ n1_ n2_ n3_ n4_ n5_ n6_; clear hb hbox hg))
 (try simp only [Act.put, sa_, sb_, sc_])
 go_cut [27] (fun v27 wc => ∃ (kq : Nat) (x27_1 : Bool), v27 = .bool x27_1 ∧ Aside0 (impl_RegCode_plan.j0 kq x27_1 a0_0 l0_1 l0_2 l0_3 = some (r1, r2, r3, r4)) ∧ Aside0 (kq ≤ k) ∧ Aside0 (wc.heap[g0]? = some (.cells #[.int .i64 a0_0, (.slice A0_1 l0_1.length c0_1), (.slice A0_2 l0_2.length c0_2), (.slice A0_3 l0_3.length c0_3)] 30 (0, 0))) ∧ Aside0 (wc.heap[gb271]? = some (.cells #[.int .i64 0, (.slice none 0 0), (.slice none 0 0)] 36 (0, 0))) ∧ Aside0 (Below w.heap.size w wc))
 case first =>
  have H := HC2.out
  clear HC2
  by_cases c4 : (l0_1.length : Int) > 6
  ·rw [if_pos c4] at H
   have c4b0 : decide (6 < (l0_1.length : Int)) = true := decide_eq_true c4
   have c4b1 : decide (6 < l0_1.length) = true := decide_eq_true (by omega)
   clear c4
   (first | rw [c4b0] | (simp only [i64_w, i32_w]; rw [c4b0]) | skip)
   have H' := Aside0.mk H
   clear H
   have hnb5 := NB0_271.out
   have hnc5 := NB271_0.out
   have hcz6_0 : w3.cell? ⟨g0, 0, none⟩ = some (.int .i64 a0_0) := (za1 BK0.out 0).trans rfl
   have hcz6_1 : w3.cell? ⟨g0, 1, none⟩ = some (.slice A0_1 l0_1.length c0_1) := (za1 BK0.out 1).trans rfl
   have hcz6_2 : w3.cell? ⟨g0, 2, none⟩ = some (.slice A0_2 l0_2.length c0_2) := (za1 BK0.out 2).trans rfl
   have hcz6_3 : w3.cell? ⟨g0, 3, none⟩ = some (.slice A0_3 l0_3.length c0_3) := (za1 BK0.out 3).trans rfl
   have hfz6_0 := za0 BK0.out 0
   have hfz6_1 := za0 BK0.out 1
   have hfz6_2 := za0 BK0.out 2
   have hfz6_3 := za0 BK0.out 3
   go_wp2
   go_meet
   case rel => exact ⟨_, (true), (by first | rfl | (simp; done) | (simp [*]; done)), H', ⟨by first | omega | exact Nat.le_refl _⟩, ⟨by (with_reducible repeat (first | refine za3 ?_ _ | refine za4 ?_ | refine za2 ?_ _)); exact BK0.out⟩, ⟨by (with_reducible repeat (first | refine za3 ?_ _ | refine za4 ?_ | refine za2 ?_ _)); exact BK271.out⟩, ⟨bw_⟩⟩
  ·rw [if_neg c4] at H
   have c4b0 : decide (6 < (l0_1.length : Int)) = false := decide_eq_false c4
   have c4b1 : decide (6 < l0_1.length) = false := decide_eq_false (by omega)
   clear c4
   (first | rw [c4b0] | (simp only [i64_w, i32_w]; rw [c4b0]) | skip)
   by_cases c7 : (l0_2.length : Int) > 40
   ·rw [if_pos c7] at H
    have c7b0 : decide (40 < (l0_2.length : Int)) = true := decide_eq_true c7
    have c7b1 : decide (40 < l0_2.length) = true := decide_eq_true (by omega)
    clear c7
    have H' := Aside0.mk H
    clear H
    have hnb8 := NB0_271.out
    have hnc8 := NB271_0.out
    have hcz9_0 : w3.cell? ⟨g0, 0, none⟩ = some (.int .i64 a0_0) := (za1 BK0.out 0).trans rfl
    have hcz9_1 : w3.cell? ⟨g0, 1, none⟩ = some (.slice A0_1 l0_1.length c0_1) := (za1 BK0.out 1).trans rfl
    have hcz9_2 : w3.cell? ⟨g0, 2, none⟩ = some (.slice A0_2 l0_2.length c0_2) := (za1 BK0.out 2).trans rfl
    have hcz9_3 : w3.cell? ⟨g0, 3, none⟩ = some (.slice A0_3 l0_3.length c0_3) := (za1 BK0.out 3).trans rfl
    have hfz9_0 := za0 BK0.out 0
    have hfz9_1 := za0 BK0.out 1
    have hfz9_2 := za0 BK0.out 2
    have hfz9_3 := za0 BK0.out 3
    go_wp2
    go_meet
    case rel => exact ⟨_, (true), (by first | rfl | (simp; done) | (simp [*]; done)), H', ⟨by first | omega | exact Nat.le_refl _⟩, ⟨by (with_reducible repeat (first | refine za3 ?_ _ | refine za4 ?_ | refine za2 ?_ _)); exact BK0.out⟩, ⟨by (with_reducible repeat (first | refine za3 ?_ _ | refine za4 ?_ | refine za2 ?_ _)); exact BK271.out⟩, ⟨bw_⟩⟩
   ·rw [if_neg c7] at H
    have c7b0 : decide (40 < (l0_2.length : Int)) = false := decide_eq_false c7
    have c7b1 : decide (40 < l0_2.length) = false := decide_eq_false (by omega)
    clear c7
    have H' := Aside0.mk H
    clear H
    have hnb10 := NB0_271.out
    have hnc10 := NB271_0.out
    have hcz11_0 : w3.cell? ⟨g0, 0, none⟩ = some (.int .i64 a0_0) := (za1 BK0.out 0).trans rfl
    have hcz11_1 : w3.cell? ⟨g0, 1, none⟩ = some (.slice A0_1 l0_1.length c0_1) := (za1 BK0.out 1).trans rfl
    have hcz11_2 : w3.cell? ⟨g0, 2, none⟩ = some (.slice A0_2 l0_2.length c0_2) := (za1 BK0.out 2).trans rfl
    have hcz11_3 : w3.cell? ⟨g0, 3, none⟩ = some (.slice A0_3 l0_3.length c0_3) := (za1 BK0.out 3).trans rfl
    have hfz11_0 := za0 BK0.out 0
    have hfz11_1 := za0 BK0.out 1
    have hfz11_2 := za0 BK0.out 2
    have hfz11_3 := za0 BK0.out 3
    go_wp2
    go_meet
    case rel => exact ⟨_, (decide ((l0_3.length : Int) > 6)), (by first | rfl | (simp; done) | (simp [*]; done)), H', ⟨by first | omega | exact Nat.le_refl _⟩, ⟨by (with_reducible repeat (first | refine za3 ?_ _ | refine za4 ?_ | refine za2 ?_ _)); exact BK0.out⟩, ⟨by (with_reducible repeat (first | refine za3 ?_ _ | refine za4 ?_ | refine za2 ?_ _)); exact BK271.out⟩, ⟨bw_⟩⟩
 case rest =>
  clear HC2
  try clear c1
  try clear p2
  try clear c4
  try clear c4b0
  try clear c4b1
  try clear c5
  try clear c6
  try clear c7
  try clear c7b0
  try clear c7b1
  try clear c8
  try clear c10
  try clear hcz11_0
  try clear hcz11_1
  try clear hcz11_2
  try clear hcz11_3
  try clear hcz6_0
  try clear hcz6_1
  try clear hcz6_2
  try clear hcz6_3
  try clear hcz9_0
  try clear hcz9_1
  try clear hcz9_2
  try clear hcz9_3
  try clear hfz11_0
  try clear hfz11_1
  try clear hfz11_2
  try clear hfz11_3
  try clear hfz6_0
  try clear hfz6_1
  try clear hfz6_2
  try clear hfz6_3
  try clear hfz9_0
  try clear hfz9_1
  try clear hfz9_2
  try clear hfz9_3
  obtain ⟨kq, x27_1, rfl, HA, HJ1, BK0, BK271, HB⟩ := hcut
  cases kq with
  | zero => exact absurd HA.out (by simp [impl_RegCode_plan.j0])
  | succ kj1 =>
   have H := HA.out
   clear HA
   simp only [impl_RegCode_plan.j0] at H
   by_cases c12 : x27_1 = true
   ·subst c12
    have H1 : (some (0, ([] : List (S117)), ([] : List Int), false)) = some (r1, r2, r3, r4) := by rw [if_pos rfl] at H; exact H
    clear H
    have H := H1
    clear H1
    simp only [Option.some.injEq, Prod.mk.injEq] at H
    obtain ⟨rfl, rfl, rfl, rfl⟩ := H
    have hnb13 := NB271_0.out
    have hnc13 := NB0_271.out
    have hcz14_0 : wc.cell? ⟨gb271, 0, none⟩ = some (.int .i64 0) := (za1 BK271.out 0).trans rfl
    have hcz14_1 : wc.cell? ⟨gb271, 1, none⟩ = some (.slice none 0 0) := (za1 BK271.out 1).trans rfl
    have hcz14_2 : wc.cell? ⟨gb271, 2, none⟩ = some (.slice none 0 0) := (za1 BK271.out 2).trans rfl
    have hfz14_0 := za0 BK271.out 0
    have hfz14_1 := za0 BK271.out 1
    have hfz14_2 := za0 BK271.out 2
    go_wp2
    refine bodyPost_ret (results_ct rfl _ _ gb271 36 #[.int .i64 0, .slice none 0 0, .slice none 0 0] (0, 0) _ rfl (by (with_reducible repeat (first | refine za3 ?_ _ | refine za4 ?_ | refine za2 ?_ _)); refine zao (cs := #[.int .i64 0, .slice none 0 0, .slice none 0 0]) ?_ 2 _ rfl; (with_reducible repeat (first | refine za3 ?_ _ | refine za4 ?_ | refine za2 ?_ _)); refine zao (cs := #[.int .i64 0, .slice none 0 0, .slice none 0 0]) ?_ 1 _ rfl; (with_reducible repeat (first | refine za3 ?_ _ | refine za4 ?_ | refine za2 ?_ _)); refine zao (cs := #[.int .i64 0, .slice none 0 0, .slice none 0 0]) ?_ 0 _ rfl; (with_reducible repeat (first | refine za3 ?_ _ | refine za4 ?_ | refine za2 ?_ _)); exact BK271.out) Try.underlying36 rfl (by kernel_rfl)) rfl ?_
    exact ⟨_, _, by first | rfl | (simp [zab, zaa] <;> rfl) | (simp [*, zab, zaa] <;> rfl), by first | exact Kd.R_nil _ _ _ _ _ | exact Kd.N_nil _ _ _ _ _ | exact Kd.V_nil _ _ _ _ _ | exact Kd.Q_nil _ _ _ _ _ | exact Kd.S_nil _ _ _ _ _, by first | exact Kd.R_nil _ _ _ _ _ | exact Kd.N_nil _ _ _ _ _ | exact Kd.V_nil _ _ _ _ _ | exact Kd.Q_nil _ _ _ _ _ | exact Kd.S_nil _ _ _ _ _, bw_⟩
   ·replace c12 := Bool.eq_false_iff.mpr c12
    subst c12
    have H1 : ((impl_RegCode_read.f a0_0 l0_1 l0_2 l0_3).bind fun bt272 => (if bt272.2.2.2 = true then ((impl_told.f kj1 bt272.1 bt272.2.1 bt272.2.2.1).bind fun bt281 => (some (bt281.1, bt281.2.1, bt281.2.2.1, bt281.2.2.2))) else (some (0, ([] : List (S117)), ([] : List Int), false)))) = some (r1, r2, r3, r4) := by rw [if_neg (show ¬ (false = true) by decide)] at H; exact H
    clear H
    have H := H1
    clear H1
    replace H := Option.bind_eq_some_iff.mp H
    obtain ⟨⟨t272, t273, t276, t279⟩, A150, H⟩ := H
    replace H : (if t279 = true then ((impl_told.f kj1 t272 t273 t276).bind fun bt281 => (some (bt281.1, bt281.2.1, bt281.2.2.1, bt281.2.2.2))) else (some (0, ([] : List (S117)), ([] : List Int), false))) = some (r1, r2, r3, r4) := H
    have A15 := Aside0.mk A150
    clear A150
    by_cases c16 : t279 = true
    ·subst c16
     have H1 : ((impl_told.f kj1 t272 t273 t276).bind fun bt281 => (some (bt281.1, bt281.2.1, bt281.2.2.1, bt281.2.2.2))) = some (r1, r2, r3, r4) := by rw [if_pos rfl] at H; exact H
     clear H
     have H := H1
     clear H1
     replace H := Option.bind_eq_some_iff.mp H
     obtain ⟨⟨t281, t282, t285, t288⟩, A170, H⟩ := H
     replace H : (some (t281, t282, t285, t288)) = some (r1, r2, r3, r4) := H
     have A17 := Aside0.mk A170
     clear A170
     simp only [Option.some.injEq, Prod.mk.injEq] at H
     obtain ⟨rfl, rfl, rfl, rfl⟩ := H
     go_wp2_with (first | ((with_reducible refine zah (f := 126) rfl ?_); refine zaz (some 31) rfl rfl Try.func126 (by kernel_rfl) rfl #[.pointer (some ⟨g0, 0, none⟩)] rfl (by (try simp only [List.map_toArray, List.map_cons, List.map_nil]); first | done | rfl | (simp only [List.length_drop, List.length_take]; rfl)) ?_; (with_reducible refine (impl_RegCode_read.calls g0 a0_0 A0_1 c0_1 l0_1 A0_2 c0_2 l0_2 A0_3 c0_3 l0_3 t272 t273 t276 true _ ?side1 ?side2 ?side3 ?side4 ?side5 ?side6 ?side7 A15.out).mono ?_); (case side1 => (with_reducible repeat (first | refine za3 ?_ _ | refine za4 ?_ | refine za2 ?_ _)); exact BK0.out); (case side2 => exact Kd.zac HR0_1.out bw_); (case side3 => exact HC0_1.out); (case side4 => exact Kd.zac HR0_2.out bw_); (case side5 => exact HC0_2.out); (case side6 => exact Kd.zac HR0_3.out bw_); (case side7 => exact HC0_3.out); rintro e w18 ⟨v274, v277, rfl, ho0, ho1, hb⟩; refine ⟨_, rfl, ?_⟩; have n0_ := Aside0.mk (Kd.R_lower ho0 (za6 bw_)); have n1_ := Aside0.mk (Kd.R_lower ho1 (za6 bw_)); have n2_ := Aside0.mk (za7 (g := g0) (o := .cells #[.int .i64 a0_0, .slice A0_1 l0_1.length c0_1, .slice A0_2 l0_2.length c0_2, .slice A0_3 l0_3.length c0_3] 30 (0, 0)) (by (with_reducible repeat (first | refine za3 ?_ _ | refine za4 ?_ | refine za2 ?_ _)); exact BK0.out) hb); have n3_ := Aside0.mk (za7 (g := gb271) (o := .cells #[.int .i64 0, .slice none 0 0, .slice none 0 0] 36 (0, 0)) (by (with_reducible repeat (first | refine za3 ?_ _ | refine za4 ?_ | refine za2 ?_ _)); exact BK271.out) hb); have n4_ := Aside0.mk (za8 bw_ hb); clear BK0; clear BK271; clear HB; have HO275 := n0_; have HO278 := n1_; have BK0 := n2_; have BK271 := n3_; have HB := n4_; clear n0_ n1_ n2_ n3_ n4_; (try clear hb); (try clear hb2); (try clear hk); (try clear hi); (try clear ho0); (try clear ho1)) | ((with_reducible refine zaf (N := 4) rfl ?_); (try (refine gate_guard (by rfl) ?_; dsimp only)); refine zad ?hg (N := 4) ?hd (cs := #[.int .i64 0, .slice none 0 0, .slice none 0 0]) (t := 36) ?hr ?_; (case hd => rfl); (case hg => rfl); (case hr => first | (go_simp; done) | (go_simp; rfl)); intro gb280 hg w19 hbox hb; have n0_ := Aside0.mk (Kd.zba (by (with_reducible repeat (first | apply Kd.zaj | apply Kd.zak | apply Kd.zam)); exact HO275.out) hb); have n1_ := Aside0.mk (Kd.zba (by (with_reducible repeat (first | apply Kd.zaj | apply Kd.zak | apply Kd.zam)); exact HO278.out) hb); have n2_ := Aside0.mk (za7 (g := g0) (o := .cells #[.int .i64 a0_0, .slice A0_1 l0_1.length c0_1, .slice A0_2 l0_2.length c0_2, .slice A0_3 l0_3.length c0_3] 30 (0, 0)) (by (with_reducible repeat (first | refine za3 ?_ _ | refine za4 ?_ | refine za2 ?_ _)); exact BK0.out) hb); have n3_ := Aside0.mk (za7 (g := gb271) (o := .cells #[.int .i64 0, .slice none 0 0, .slice none 0 0] 36 (0, 0)) (by (with_reducible repeat (first | refine za3 ?_ _ | refine za4 ?_ | refine za2 ?_ _)); exact BK271.out) hb); have n4_ := Aside0.mk (za8 bw_ hb); have n5_ := Aside0.mk (hbox); have n6_ := Aside0.mk ((by rw [hg]; exact (za6 bw_) : w.heap.size ≤ gb280)); have n7_ := Aside0.mk ((by rw [hg]; exact (za6 bw_) : w.heap.size ≤ gb280)); have n8_ := Aside0.mk ((by rw [hg]; exact Nat.ne_of_lt (zan (g := g0) (o := .cells #[.int .i64 a0_0, .slice A0_1 l0_1.length c0_1, .slice A0_2 l0_2.length c0_2, .slice A0_3 l0_3.length c0_3] 30 (0, 0)) (by (with_reducible repeat (first | refine za3 ?_ _ | refine za4 ?_ | refine za2 ?_ _)); exact BK0.out)) : g0 ≠ gb280)); have n9_ := Aside0.mk ((by rw [hg]; exact Nat.ne_of_gt (zan (g := g0) (o := .cells #[.int .i64 a0_0, .slice A0_1 l0_1.length c0_1, .slice A0_2 l0_2.length c0_2, .slice A0_3 l0_3.length c0_3] 30 (0, 0)) (by (with_reducible repeat (first | refine za3 ?_ _ | refine za4 ?_ | refine za2 ?_ _)); exact BK0.out)) : gb280 ≠ g0)); have n10_ := Aside0.mk ((by rw [hg]; exact Nat.ne_of_lt (zan (g := gb271) (o := .cells #[.int .i64 0, .slice none 0 0, .slice none 0 0] 36 (0, 0)) (by (with_reducible repeat (first | refine za3 ?_ _ | refine za4 ?_ | refine za2 ?_ _)); exact BK271.out)) : gb271 ≠ gb280)); have n11_ := Aside0.mk ((by rw [hg]; exact Nat.ne_of_gt (zan (g := gb271) (o := .cells #[.int .i64 0, .slice none 0 0, .slice none 0 0] 36 (0, 0)) (by (with_reducible repeat (first | refine za3 ?_ _ | refine za4 ?_ | refine za2 ?_ _)); exact BK271.out)) : gb280 ≠ gb271)); clear HO275; clear HO278; clear BK0; clear BK271; clear HB; have HO275 := n0_; have HO278 := n1_; have BK0 := n2_; have BK271 := n3_; have HB := n4_; have BK280 := n5_; have GW280 := n6_; have GE280 := n7_; have NB0_280 := n8_; have NB280_0 := n9_; have NB271_280 := n10_; have NB280_271 := n11_; clear n0_ n1_ n2_ n3_ n4_ n5_ n6_ n7_ n8_ n9_ n10_ n11_; clear hb hbox hg; have hnb20 := NB280_0.out; have hnc20 := NB0_280.out; have hnb21 := NB280_271.out; have hnc21 := NB271_280.out; have hcz22_0 : w19.cell? ⟨gb280, 0, none⟩ = some (.int .i64 0) := (za1 BK280.out 0).trans rfl; have hcz22_1 : w19.cell? ⟨gb280, 1, none⟩ = some (.slice none 0 0) := (za1 BK280.out 1).trans rfl; have hcz22_2 : w19.cell? ⟨gb280, 2, none⟩ = some (.slice none 0 0) := (za1 BK280.out 2).trans rfl; have hfz22_0 := za0 BK280.out 0; have hfz22_1 := za0 BK280.out 1; have hfz22_2 := za0 BK280.out 2; obtain ⟨Ao23, co23, eo23⟩ := Kd.zat HO275.out; subst eo23; obtain ⟨Ao24, co24, eo24⟩ := Kd.zat HO278.out; subst eo24) | ((with_reducible refine gate_store (t := 36) (p := 4) rfl ?_); refine store_event (t := 36) (p := 4) (v := ?vo_w25) (w1 := (((w19.setCell ⟨gb280, 0, none⟩ (.int .i64 t272)).setCell ⟨gb280, 1, none⟩ (.slice Ao23 t273.length co23)).setCell ⟨gb280, 2, none⟩ (.slice Ao24 t276.length co24))) ?hg ?ho ?hn ?hr ?_; (case ho => rfl); (case hg => rfl); (case hn => rfl); (case hr => first | (go_simp; done) | (go_simp; rfl)); intro w25 hw; have n0_ : Aside0 (Kd.R k117 117 w25 w.heap.size (fun _ => True) (.slice Ao23 t273.length co23) t273) := ⟨(by rw [hw]; exact (by (with_reducible repeat (first | apply Kd.zaj | apply Kd.zak | apply Kd.zam)); exact Kd.zar (Kd.R_far (p := ⟨gb280, 2, none⟩) (Kd.R_far (p := ⟨gb280, 1, none⟩) (Kd.R_far (p := ⟨gb280, 0, none⟩) (Kd.R_types HO275.out BK280.out (by decide)) (fun _ hk => hk.2) (.int .i64 t272)) (fun _ hk => hk.2) (.slice Ao23 t273.length co23)) (fun _ hk => hk.2) (.slice Ao24 t276.length co24)) (fun _ hk => trivial)))⟩; have n1_ : Aside0 (Kd.R (Kd.int .i64) 3 w25 w.heap.size (fun _ => True) (.slice Ao24 t276.length co24) t276) := ⟨(by rw [hw]; exact (by (with_reducible repeat (first | apply Kd.zaj | apply Kd.zak | apply Kd.zam)); exact Kd.zar (Kd.R_far (p := ⟨gb280, 2, none⟩) (Kd.R_far (p := ⟨gb280, 1, none⟩) (Kd.R_far (p := ⟨gb280, 0, none⟩) (Kd.R_types HO278.out BK280.out (by decide)) (fun _ hk => hk.2) (.int .i64 t272)) (fun _ hk => hk.2) (.slice Ao23 t273.length co23)) (fun _ hk => hk.2) (.slice Ao24 t276.length co24)) (fun _ hk => trivial)))⟩; have n2_ : Aside0 (w25.heap[g0]? = some (.cells #[.int .i64 a0_0, .slice A0_1 l0_1.length c0_1, .slice A0_2 l0_2.length c0_2, .slice A0_3 l0_3.length c0_3] 30 (0, 0))) := ⟨(by rw [hw]; exact (by (with_reducible repeat (first | refine za3 ?_ _ | refine za4 ?_ | refine za2 ?_ _)); refine zb2 ?_ NB0_280.out _; (with_reducible repeat (first | refine za3 ?_ _ | refine za4 ?_ | refine za2 ?_ _)); refine zb2 ?_ NB0_280.out _; (with_reducible repeat (first | refine za3 ?_ _ | refine za4 ?_ | refine za2 ?_ _)); refine zb2 ?_ NB0_280.out _; (with_reducible repeat (first | refine za3 ?_ _ | refine za4 ?_ | refine za2 ?_ _)); exact BK0.out))⟩; have n3_ : Aside0 (w25.heap[gb271]? = some (.cells #[.int .i64 0, .slice none 0 0, .slice none 0 0] 36 (0, 0))) := ⟨(by rw [hw]; exact (by (with_reducible repeat (first | refine za3 ?_ _ | refine za4 ?_ | refine za2 ?_ _)); refine zb2 ?_ NB271_280.out _; (with_reducible repeat (first | refine za3 ?_ _ | refine za4 ?_ | refine za2 ?_ _)); refine zb2 ?_ NB271_280.out _; (with_reducible repeat (first | refine za3 ?_ _ | refine za4 ?_ | refine za2 ?_ _)); refine zb2 ?_ NB271_280.out _; (with_reducible repeat (first | refine za3 ?_ _ | refine za4 ?_ | refine za2 ?_ _)); exact BK271.out))⟩; have n4_ : Aside0 (w25.heap[gb280]? = some (.cells #[.int .i64 t272, .slice Ao23 t273.length co23, .slice Ao24 t276.length co24] 36 (0, 0))) := ⟨(by rw [hw]; exact (by (with_reducible repeat (first | refine za3 ?_ _ | refine za4 ?_ | refine za2 ?_ _)); refine zao (cs := #[.int .i64 t272, .slice Ao23 t273.length co23, .slice none 0 0]) ?_ 2 _ rfl; (with_reducible repeat (first | refine za3 ?_ _ | refine za4 ?_ | refine za2 ?_ _)); refine zao (cs := #[.int .i64 t272, .slice none 0 0, .slice none 0 0]) ?_ 1 _ rfl; (with_reducible repeat (first | refine za3 ?_ _ | refine za4 ?_ | refine za2 ?_ _)); refine zao (cs := #[.int .i64 0, .slice none 0 0, .slice none 0 0]) ?_ 0 _ rfl; (with_reducible repeat (first | refine za3 ?_ _ | refine za4 ?_ | refine za2 ?_ _)); exact BK280.out))⟩; have n5_ : Aside0 (Below w.heap.size w w25) := ⟨(by rw [hw]; exact bw_)⟩; clear hw; clear HO275; clear HO278; clear BK0; clear BK271; clear BK280; clear HB; have HO275 := n0_; have HO278 := n1_; have BK0 := n2_; have BK271 := n3_; have BK280 := n4_; have HB := n5_; clear n0_ n1_ n2_ n3_ n4_ n5_; have hcz26_0 : w25.cell? ⟨gb280, 0, none⟩ = some (.int .i64 t272) := (za1 BK280.out 0).trans rfl; have hcz26_1 : w25.cell? ⟨gb280, 1, none⟩ = some (.slice Ao23 t273.length co23) := (za1 BK280.out 1).trans rfl; have hcz26_2 : w25.cell? ⟨gb280, 2, none⟩ = some (.slice Ao24 t276.length co24) := (za1 BK280.out 2).trans rfl; have hfz26_0 := za0 BK280.out 0; have hfz26_1 := za0 BK280.out 1; have hfz26_2 := za0 BK280.out 2) | ((with_reducible refine zah (f := 92) rfl ?_); refine zaz (some 38) rfl rfl Try.func92 (by kernel_rfl) rfl #[.agg #[.int .i64 t272, .slice Ao23 t273.length co23, .slice Ao24 t276.length co24]] rfl (by (try simp only [List.map_toArray, List.map_cons, List.map_nil]); first | done | rfl | (simp only [List.length_drop, List.length_take]; rfl)) ?_; (with_reducible refine (impl_told.calls kj1 t272 (fun k_ => some k_ = (.slice Ao23 t273.length co23 : Value).ownBlock) (.slice Ao23 t273.length co23) t273 (fun k_ => some k_ = (.slice Ao24 t276.length co24 : Value).ownBlock) (.slice Ao24 t276.length co24) t276 t281 t282 t285 t288 w _ ?side1 ?side2 ?side3 A17.out).mono ?_); (case side1 => repeat (first | (with_reducible first | exact HB.out | apply zay | apply zaq | apply zav | refine below_set ?_ GE0.out | refine below_set ?_ GE271.out | refine below_set ?_ GE280.out) | exact HB.out)); (case side2 => exact Kd.R_tight rfl HO275.out); (case side3 => exact Kd.R_tight rfl HO278.out); rintro e w27 ⟨v283, v286, rfl, ho0, ho1, hb, hkp⟩; refine ⟨_, rfl, ?_⟩; have n0_ := Aside0.mk (blk_kept (by (with_reducible repeat (first | refine za3 ?_ _ | refine za4 ?_ | refine za2 ?_ _)); exact BK0.out) hkp (fun hs_ => Or.elim hs_ (fun e_ => (fun e_ => (Kd.R_ne HO275.out BK0.out (by decide)) e_) e_) (fun e_ => (fun e_ => (Kd.R_ne HO278.out BK0.out (by decide)) e_) e_))); have n1_ := Aside0.mk (blk_kept (by (with_reducible repeat (first | refine za3 ?_ _ | refine za4 ?_ | refine za2 ?_ _)); exact BK271.out) hkp (fun hs_ => Or.elim hs_ (fun e_ => (fun e_ => (Kd.R_ne HO275.out BK271.out (by decide)) e_) e_) (fun e_ => (fun e_ => (Kd.R_ne HO278.out BK271.out (by decide)) e_) e_))); have n2_ := Aside0.mk (blk_kept (by (with_reducible repeat (first | refine za3 ?_ _ | refine za4 ?_ | refine za2 ?_ _)); exact BK280.out) hkp (fun hs_ => Or.elim hs_ (fun e_ => (fun e_ => (Kd.R_ne HO275.out BK280.out (by decide)) e_) e_) (fun e_ => (fun e_ => (Kd.R_ne HO278.out BK280.out (by decide)) e_) e_))); have n3_ := Aside0.mk (Kd.zar (ok' := fun k_ => True) ho0 (fun k_ hk_ => trivial)); have n4_ := Aside0.mk (Kd.zar (ok' := fun k_ => True) ho1 (fun k_ hk_ => trivial)); have n5_ := Aside0.mk (hb); clear BK0; clear BK271; clear BK280; clear HB; clear HO275; clear HO278; have BK0 := n0_; have BK271 := n1_; have BK280 := n2_; have HO284 := n3_; have HO287 := n4_; have HB := n5_; clear n0_ n1_ n2_ n3_ n4_ n5_; (try clear hb); (try clear hkp); (try clear ho0); (try clear ho1); have hnb28 := NB271_0.out; have hnc28 := NB0_271.out; have hcz29_0 : w27.cell? ⟨gb271, 0, none⟩ = some (.int .i64 0) := (za1 BK271.out 0).trans rfl; have hcz29_1 : w27.cell? ⟨gb271, 1, none⟩ = some (.slice none 0 0) := (za1 BK271.out 1).trans rfl; have hcz29_2 : w27.cell? ⟨gb271, 2, none⟩ = some (.slice none 0 0) := (za1 BK271.out 2).trans rfl; have hfz29_0 := za0 BK271.out 0; have hfz29_1 := za0 BK271.out 1; have hfz29_2 := za0 BK271.out 2; obtain ⟨Ao30, co30, eo30⟩ := Kd.zat HO284.out; subst eo30; obtain ⟨Ao31, co31, eo31⟩ := Kd.zat HO287.out; subst eo31))
     refine bodyPost_ret (results_ct rfl _ _ gb271 36 #[.int .i64 t281, .slice Ao30 t282.length co30, .slice Ao31 t285.length co31] (0, 0) _ rfl (by (with_reducible repeat (first | refine za3 ?_ _ | refine za4 ?_ | refine za2 ?_ _)); refine zao (cs := #[.int .i64 t281, .slice Ao30 t282.length co30, .slice none 0 0]) ?_ 2 _ rfl; (with_reducible repeat (first | refine za3 ?_ _ | refine za4 ?_ | refine za2 ?_ _)); refine zao (cs := #[.int .i64 t281, .slice none 0 0, .slice none 0 0]) ?_ 1 _ rfl; (with_reducible repeat (first | refine za3 ?_ _ | refine za4 ?_ | refine za2 ?_ _)); refine zao (cs := #[.int .i64 0, .slice none 0 0, .slice none 0 0]) ?_ 0 _ rfl; (with_reducible repeat (first | refine za3 ?_ _ | refine za4 ?_ | refine za2 ?_ _)); exact BK271.out) Try.underlying36 rfl (by kernel_rfl)) rfl ?_
     exact ⟨_, _, by first | rfl | (simp [zab, zaa] <;> rfl) | (simp [*, zab, zaa] <;> rfl), by (with_reducible repeat (first | apply Kd.zaj | apply Kd.zak | apply Kd.zam)); exact Kd.zar (Kd.R_far (p := ⟨gb271, 2, none⟩) (Kd.R_far (p := ⟨gb271, 1, none⟩) (Kd.R_far (p := ⟨gb271, 0, none⟩) (Kd.R_types HO284.out BK271.out (by decide)) (fun _ hk => hk.2) (.int .i64 t281)) (fun _ hk => hk.2) (.slice Ao30 t282.length co30)) (fun _ hk => hk.2) (.slice Ao31 t285.length co31)) (fun _ hk => trivial), by (with_reducible repeat (first | apply Kd.zaj | apply Kd.zak | apply Kd.zam)); exact Kd.zar (Kd.R_far (p := ⟨gb271, 2, none⟩) (Kd.R_far (p := ⟨gb271, 1, none⟩) (Kd.R_far (p := ⟨gb271, 0, none⟩) (Kd.R_types HO287.out BK271.out (by decide)) (fun _ hk => hk.2) (.int .i64 t281)) (fun _ hk => hk.2) (.slice Ao30 t282.length co30)) (fun _ hk => hk.2) (.slice Ao31 t285.length co31)) (fun _ hk => trivial), bw_⟩
    ·replace c16 := Bool.eq_false_iff.mpr c16
     subst c16
     have H1 : (some (0, ([] : List (S117)), ([] : List Int), false)) = some (r1, r2, r3, r4) := by rw [if_neg (show ¬ (false = true) by decide)] at H; exact H
     clear H
     have H := H1
     clear H1
     simp only [Option.some.injEq, Prod.mk.injEq] at H
     obtain ⟨rfl, rfl, rfl, rfl⟩ := H
     go_wp2_with (first | ((with_reducible refine zah (f := 126) rfl ?_); refine zaz (some 31) rfl rfl Try.func126 (by kernel_rfl) rfl #[.pointer (some ⟨g0, 0, none⟩)] rfl (by (try simp only [List.map_toArray, List.map_cons, List.map_nil]); first | done | rfl | (simp only [List.length_drop, List.length_take]; rfl)) ?_; (with_reducible refine (impl_RegCode_read.calls g0 a0_0 A0_1 c0_1 l0_1 A0_2 c0_2 l0_2 A0_3 c0_3 l0_3 t272 t273 t276 false _ ?side1 ?side2 ?side3 ?side4 ?side5 ?side6 ?side7 A15.out).mono ?_); (case side1 => (with_reducible repeat (first | refine za3 ?_ _ | refine za4 ?_ | refine za2 ?_ _)); exact BK0.out); (case side2 => exact Kd.zac HR0_1.out bw_); (case side3 => exact HC0_1.out); (case side4 => exact Kd.zac HR0_2.out bw_); (case side5 => exact HC0_2.out); (case side6 => exact Kd.zac HR0_3.out bw_); (case side7 => exact HC0_3.out); rintro e w32 ⟨v274, v277, rfl, ho0, ho1, hb⟩; refine ⟨_, rfl, ?_⟩; have n0_ := Aside0.mk (Kd.R_lower ho0 (za6 bw_)); have n1_ := Aside0.mk (Kd.R_lower ho1 (za6 bw_)); have n2_ := Aside0.mk (za7 (g := g0) (o := .cells #[.int .i64 a0_0, .slice A0_1 l0_1.length c0_1, .slice A0_2 l0_2.length c0_2, .slice A0_3 l0_3.length c0_3] 30 (0, 0)) (by (with_reducible repeat (first | refine za3 ?_ _ | refine za4 ?_ | refine za2 ?_ _)); exact BK0.out) hb); have n3_ := Aside0.mk (za7 (g := gb271) (o := .cells #[.int .i64 0, .slice none 0 0, .slice none 0 0] 36 (0, 0)) (by (with_reducible repeat (first | refine za3 ?_ _ | refine za4 ?_ | refine za2 ?_ _)); exact BK271.out) hb); have n4_ := Aside0.mk (za8 bw_ hb); clear BK0; clear BK271; clear HB; have HO275 := n0_; have HO278 := n1_; have BK0 := n2_; have BK271 := n3_; have HB := n4_; clear n0_ n1_ n2_ n3_ n4_; (try clear hb); (try clear hb2); (try clear hk); (try clear hi); (try clear ho0); (try clear ho1)) | ((with_reducible refine zaf (N := 4) rfl ?_); (try (refine gate_guard (by rfl) ?_; dsimp only)); refine zad ?hg (N := 4) ?hd (cs := #[.int .i64 0, .slice none 0 0, .slice none 0 0]) (t := 36) ?hr ?_; (case hd => rfl); (case hg => rfl); (case hr => first | (go_simp; done) | (go_simp; rfl)); intro gb280 hg w33 hbox hb; have n0_ := Aside0.mk (Kd.zba (by (with_reducible repeat (first | apply Kd.zaj | apply Kd.zak | apply Kd.zam)); exact HO275.out) hb); have n1_ := Aside0.mk (Kd.zba (by (with_reducible repeat (first | apply Kd.zaj | apply Kd.zak | apply Kd.zam)); exact HO278.out) hb); have n2_ := Aside0.mk (za7 (g := g0) (o := .cells #[.int .i64 a0_0, .slice A0_1 l0_1.length c0_1, .slice A0_2 l0_2.length c0_2, .slice A0_3 l0_3.length c0_3] 30 (0, 0)) (by (with_reducible repeat (first | refine za3 ?_ _ | refine za4 ?_ | refine za2 ?_ _)); exact BK0.out) hb); have n3_ := Aside0.mk (za7 (g := gb271) (o := .cells #[.int .i64 0, .slice none 0 0, .slice none 0 0] 36 (0, 0)) (by (with_reducible repeat (first | refine za3 ?_ _ | refine za4 ?_ | refine za2 ?_ _)); exact BK271.out) hb); have n4_ := Aside0.mk (za8 bw_ hb); have n5_ := Aside0.mk (hbox); have n6_ := Aside0.mk ((by rw [hg]; exact (za6 bw_) : w.heap.size ≤ gb280)); have n7_ := Aside0.mk ((by rw [hg]; exact (za6 bw_) : w.heap.size ≤ gb280)); have n8_ := Aside0.mk ((by rw [hg]; exact Nat.ne_of_lt (zan (g := g0) (o := .cells #[.int .i64 a0_0, .slice A0_1 l0_1.length c0_1, .slice A0_2 l0_2.length c0_2, .slice A0_3 l0_3.length c0_3] 30 (0, 0)) (by (with_reducible repeat (first | refine za3 ?_ _ | refine za4 ?_ | refine za2 ?_ _)); exact BK0.out)) : g0 ≠ gb280)); have n9_ := Aside0.mk ((by rw [hg]; exact Nat.ne_of_gt (zan (g := g0) (o := .cells #[.int .i64 a0_0, .slice A0_1 l0_1.length c0_1, .slice A0_2 l0_2.length c0_2, .slice A0_3 l0_3.length c0_3] 30 (0, 0)) (by (with_reducible repeat (first | refine za3 ?_ _ | refine za4 ?_ | refine za2 ?_ _)); exact BK0.out)) : gb280 ≠ g0)); have n10_ := Aside0.mk ((by rw [hg]; exact Nat.ne_of_lt (zan (g := gb271) (o := .cells #[.int .i64 0, .slice none 0 0, .slice none 0 0] 36 (0, 0)) (by (with_reducible repeat (first | refine za3 ?_ _ | refine za4 ?_ | refine za2 ?_ _)); exact BK271.out)) : gb271 ≠ gb280)); have n11_ := Aside0.mk ((by rw [hg]; exact Nat.ne_of_gt (zan (g := gb271) (o := .cells #[.int .i64 0, .slice none 0 0, .slice none 0 0] 36 (0, 0)) (by (with_reducible repeat (first | refine za3 ?_ _ | refine za4 ?_ | refine za2 ?_ _)); exact BK271.out)) : gb280 ≠ gb271)); clear HO275; clear HO278; clear BK0; clear BK271; clear HB; have HO275 := n0_; have HO278 := n1_; have BK0 := n2_; have BK271 := n3_; have HB := n4_; have BK280 := n5_; have GW280 := n6_; have GE280 := n7_; have NB0_280 := n8_; have NB280_0 := n9_; have NB271_280 := n10_; have NB280_271 := n11_; clear n0_ n1_ n2_ n3_ n4_ n5_ n6_ n7_ n8_ n9_ n10_ n11_; clear hb hbox hg; have hnb34 := NB280_0.out; have hnc34 := NB0_280.out; have hnb35 := NB280_271.out; have hnc35 := NB271_280.out; have hcz36_0 : w33.cell? ⟨gb280, 0, none⟩ = some (.int .i64 0) := (za1 BK280.out 0).trans rfl; have hcz36_1 : w33.cell? ⟨gb280, 1, none⟩ = some (.slice none 0 0) := (za1 BK280.out 1).trans rfl; have hcz36_2 : w33.cell? ⟨gb280, 2, none⟩ = some (.slice none 0 0) := (za1 BK280.out 2).trans rfl; have hfz36_0 := za0 BK280.out 0; have hfz36_1 := za0 BK280.out 1; have hfz36_2 := za0 BK280.out 2; obtain ⟨Ao37, co37, eo37⟩ := Kd.zat HO275.out; subst eo37; obtain ⟨Ao38, co38, eo38⟩ := Kd.zat HO278.out; subst eo38; have hnb39 := NB271_0.out; have hnc39 := NB0_271.out; have hcz40_0 : w33.cell? ⟨gb271, 0, none⟩ = some (.int .i64 0) := (za1 BK271.out 0).trans rfl; have hcz40_1 : w33.cell? ⟨gb271, 1, none⟩ = some (.slice none 0 0) := (za1 BK271.out 1).trans rfl; have hcz40_2 : w33.cell? ⟨gb271, 2, none⟩ = some (.slice none 0 0) := (za1 BK271.out 2).trans rfl; have hfz40_0 := za0 BK271.out 0; have hfz40_1 := za0 BK271.out 1; have hfz40_2 := za0 BK271.out 2))
     refine bodyPost_ret (results_ct rfl _ _ gb271 36 #[.int .i64 0, .slice none 0 0, .slice none 0 0] (0, 0) _ rfl (by (with_reducible repeat (first | refine za3 ?_ _ | refine za4 ?_ | refine za2 ?_ _)); refine zao (cs := #[.int .i64 0, .slice none 0 0, .slice none 0 0]) ?_ 2 _ rfl; (with_reducible repeat (first | refine za3 ?_ _ | refine za4 ?_ | refine za2 ?_ _)); refine zao (cs := #[.int .i64 0, .slice none 0 0, .slice none 0 0]) ?_ 1 _ rfl; (with_reducible repeat (first | refine za3 ?_ _ | refine za4 ?_ | refine za2 ?_ _)); refine zao (cs := #[.int .i64 0, .slice none 0 0, .slice none 0 0]) ?_ 0 _ rfl; (with_reducible repeat (first | refine za3 ?_ _ | refine za4 ?_ | refine za2 ?_ _)); refine zb2 ?_ NB271_280.out _; (with_reducible repeat (first | refine za3 ?_ _ | refine za4 ?_ | refine za2 ?_ _)); refine zb2 ?_ NB271_280.out _; (with_reducible repeat (first | refine za3 ?_ _ | refine za4 ?_ | refine za2 ?_ _)); refine zb2 ?_ NB271_280.out _; (with_reducible repeat (first | refine za3 ?_ _ | refine za4 ?_ | refine za2 ?_ _)); exact BK271.out) Try.underlying36 rfl (by kernel_rfl)) rfl ?_
     exact ⟨_, _, by first | rfl | (simp [zab, zaa] <;> rfl) | (simp [*, zab, zaa] <;> rfl), by first | exact Kd.R_nil _ _ _ _ _ | exact Kd.N_nil _ _ _ _ _ | exact Kd.V_nil _ _ _ _ _ | exact Kd.Q_nil _ _ _ _ _ | exact Kd.S_nil _ _ _ _ _, by first | exact Kd.R_nil _ _ _ _ _ | exact Kd.N_nil _ _ _ _ _ | exact Kd.V_nil _ _ _ _ _ | exact Kd.Q_nil _ _ _ _ _ | exact Kd.S_nil _ _ _ _ _, bw_⟩

/-! ### laws_eqIntS: function 30 -/
def laws_eqIntS.l0 : Nat → List Int → List Int → Int → Option (Bool)
 | 0, _, _, _ => none
 | k + 1, x0, x1, x5 => if x5 < (x0.length : Int) then (if 0 ≤ x5 then (if x5 < (x1.length : Int) then (if (rd x0 x5) = (rd x1 x5) then (laws_eqIntS.l0 k x0 x1 (wrap64 (x5 + 1))) else (some false)) else (none)) else (none)) else (some true)
def laws_eqIntS.f (k : Nat) (l0 : List Int) (l1 : List Int) : Option (Bool) := if (l0.length : Int) = (l1.length : Int) then (laws_eqIntS.l0 k l0 l1 0) else (some false)
theorem laws_eqIntS.zb5 : ∀ k, (∀ y0 y1 y2, LeO (laws_eqIntS.l0 k y0 y1 y2) (laws_eqIntS.l0 (k + 1) y0 y1 y2))
 | 0 => fun _ _ _ r h => by simp [laws_eqIntS.l0] at h
 | k + 1 => by
  have ih0 := laws_eqIntS.zb5 k
  ·intro y0 y1 y2
   unfold laws_eqIntS.l0
   repeat' first
   | (with_reducible exact ih0 _ _ _)
   | (with_reducible exact LeO.refl _)
   | (with_reducible exact LeO.none _)
   | (with_reducible refine LeO.ite ?_ ?_)
   | (with_reducible refine LeO.bind ?_ (fun _ => ?_))
   | exact ih0 _ _ _
   | exact LeO.none _
   | refine LeO.ite ?_ ?_
   | refine LeO.bind ?_ (fun _ => ?_)
theorem laws_eqIntS.mono : ∀ a0 a1 k, LeO (laws_eqIntS.f k a0 a1) (laws_eqIntS.f (k + 1) a0 a1) := by
 intro a0 a1 k
 have ih0 := laws_eqIntS.zb5 k
 unfold laws_eqIntS.f
 repeat' first
   | (with_reducible exact ih0 _ _ _)
   | (with_reducible exact LeO.refl _)
   | (with_reducible exact LeO.none _)
   | (with_reducible refine LeO.ite ?_ ?_)
   | (with_reducible refine LeO.bind ?_ (fun _ => ?_))
   | exact ih0 _ _ _
   | exact LeO.none _
   | refine LeO.ite ?_ ?_
   | refine LeO.bind ?_ (fun _ => ?_)
set_option maxHeartbeats 8000000 in
set_option maxRecDepth 100000 in
theorem laws_eqIntS.calls (k : Nat) (A0 : Option Addr) (c0 : Nat) (l0 : List Int) (A1 : Option Addr) (c1 : Nat) (l1 : List Int) (r : Bool) (w : World) (hr0 : Kd.C (Kd.int .i64) w A0 l0.length l0) (hc0 : l0.length ≤ c0) (hr1 : Kd.C (Kd.int .i64) w A1 l1.length l1) (hc1 : l1.length ≤ c1) (h : laws_eqIntS.f k l0 l1 = some r) :
  Calls Try.prog 30 #[.slice A0 l0.length c0, .slice A1 l1.length c1] w fun e w' => e = .returned (.bool r) ∧ Drawn0 w w' := by
 have HR0 := Aside0.mk hr0
 have HC0 := Aside0.mk hc0
 clear hr0 hc0
 have HR1 := Aside0.mk hr1
 have HC1 := Aside0.mk hc1
 clear hr1 hc1
 have H : (if (l0.length : Int) = (l1.length : Int) then (laws_eqIntS.l0 k l0 l1 0) else (some false)) = some r := h
 clear h
 by_cases c3 : (l0.length : Int) = (l1.length : Int)
 ·rw [if_pos c3] at H
  have c3b0 : ((l0.length : Int) == (l1.length : Int)) = true := beq_iff_eq.mpr c3
  have c3b1 : ((l0.length : Int) != (l1.length : Int)) = false := bne_eq_false_iff_eq.mpr c3
  have c3b2 : (l0.length == l1.length) = true := by first | simpa using c3 | (simp at c3 ⊢; omega)
  clear c3
  have H' := Aside0.mk H
  clear H
  go_enter Try.func30, Try.ntmps30
  go_wp2
  repeat (go_quiet (fail); try go_wp2)
  go_loopg [5] k (fun kq v5 w' => ∃ (x5_1 : Int), v5 = .int .i64 x5_1 ∧ Aside0 (laws_eqIntS.l0 kq l0 l1 x5_1 = some r) ∧ Aside0 (kq ≤ k) ∧ Drawn0 w w')
  case atStart => exact ⟨(0), (by first | rfl | (simp; done) | (simp [*]; done)), H', ⟨Nat.le_refl _⟩, by repeat (first | exact Drawn0.refl _ | apply Drawn0.step)⟩
  case round =>
   clear H'
   try clear c1
   try clear p2
   try clear c3
   try clear c3b0
   try clear c3b1
   try clear c3b2
   obtain ⟨x5_1, rfl, HA, HK1, ⟨m1, rfl⟩⟩ := hrel
   cases gk with
   | zero => exact absurd HA.out (by simp [laws_eqIntS.l0])
   | succ k1 =>
    have H := HA.out
    clear HA
    simp only [laws_eqIntS.l0] at H
    by_cases c4 : x5_1 < (l0.length : Int)
    ·rw [if_pos c4] at H
     have c4b0 : decide (x5_1 < (l0.length : Int)) = true := decide_eq_true c4
     clear c4
     by_cases c5 : 0 ≤ x5_1
     ·rw [if_pos c5] at H
      have c5b0 : decide (0 ≤ x5_1) = true := decide_eq_true c5
      clear c5
      by_cases c6 : x5_1 < (l1.length : Int)
      ·rw [if_pos c6] at H
       have c6b0 : decide (x5_1 < (l1.length : Int)) = true := decide_eq_true c6
       clear c6
       by_cases c7 : (rd l0 x5_1) = (rd l1 x5_1)
       ·rw [if_pos c7] at H
        have c7b0 : ((rd l0 x5_1) == (rd l1 x5_1)) = true := beq_iff_eq.mpr c7
        have c7b1 : ((rd l0 x5_1) != (rd l1 x5_1)) = false := bne_eq_false_iff_eq.mpr c7
        clear c7
        have H' := Aside0.mk H
        clear H
        have p299 : 0 ≤ (x5_1 : Int) := of_decide_eq_true (by first | (with_reducible assumption) | assumption)
        have q299 : x5_1 < (l0.length : Int) := of_decide_eq_true (by first | (with_reducible assumption) | assumption)
        obtain ⟨ad299, e299, hx299_0⟩ := Kd.at_int HR0.out x5_1 p299 q299
        cases e299
        replace p299 := eq_true p299
        replace q299 := eq_true q299
        have p300 : 0 ≤ (x5_1 : Int) := of_decide_eq_true (by first | (with_reducible assumption) | assumption)
        have q300 : x5_1 < (l1.length : Int) := of_decide_eq_true (by first | (with_reducible assumption) | assumption)
        obtain ⟨ad300, e300, hx300_0⟩ := Kd.at_int HR1.out x5_1 p300 q300
        cases e300
        replace p300 := eq_true p300
        replace q300 := eq_true q300
        go_wp2
        repeat (go_quiet (fail); try go_wp2)
        go_roundg k1
        case measure => have := HK1.out; omega
        case rel => exact ⟨(wrap64 (x5_1 + 1)), (by first | rfl | (simp; done) | (simp [*]; done)), H', ⟨by have := HK1.out; omega⟩, by repeat (first | exact Drawn0.refl _ | apply Drawn0.step)⟩
       ·rw [if_neg c7] at H
        have c7b0 : ((rd l0 x5_1) == (rd l1 x5_1)) = false := beq_eq_false_iff_ne.mpr c7
        have c7b1 : ((rd l0 x5_1) != (rd l1 x5_1)) = true := bne_iff_ne.mpr c7
        obtain rfl := Option.some.inj H
        have p299 : 0 ≤ (x5_1 : Int) := of_decide_eq_true (by first | (with_reducible assumption) | assumption)
        have q299 : x5_1 < (l0.length : Int) := of_decide_eq_true (by first | (with_reducible assumption) | assumption)
        obtain ⟨ad299, e299, hx299_0⟩ := Kd.at_int HR0.out x5_1 p299 q299
        cases e299
        replace p299 := eq_true p299
        replace q299 := eq_true q299
        have p300 : 0 ≤ (x5_1 : Int) := of_decide_eq_true (by first | (with_reducible assumption) | assumption)
        have q300 : x5_1 < (l1.length : Int) := of_decide_eq_true (by first | (with_reducible assumption) | assumption)
        obtain ⟨ad300, e300, hx300_0⟩ := Kd.at_int HR1.out x5_1 p300 q300
        cases e300
        replace p300 := eq_true p300
        replace q300 := eq_true q300
        go_wp2
        repeat (go_quiet (fail); try go_wp2)
        go_ret
        exact ⟨by first | rfl | (simp; done) | (simp [*]; done), by repeat (first | exact Drawn0.refl _ | apply Drawn0.step)⟩
      ·rw [if_neg c6] at H
       exact absurd H (by simp)
     ·rw [if_neg c5] at H
      exact absurd H (by simp)
    ·rw [if_neg c4] at H
     have c4b0 : decide (x5_1 < (l0.length : Int)) = false := decide_eq_false c4
     clear c4
     obtain rfl := Option.some.inj H
     go_wp2
     repeat (go_quiet (fail); try go_wp2)
     go_ret
     exact ⟨by first | rfl | (simp; done) | (simp [*]; done), by repeat (first | exact Drawn0.refl _ | apply Drawn0.step)⟩
 ·rw [if_neg c3] at H
  have c3b0 : ((l0.length : Int) == (l1.length : Int)) = false := beq_eq_false_iff_ne.mpr c3
  have c3b1 : ((l0.length : Int) != (l1.length : Int)) = true := bne_iff_ne.mpr c3
  have c3b2 : (l0.length == l1.length) = false := by first | simpa using c3 | (simp at c3 ⊢; omega)
  obtain rfl := Option.some.inj H
  go_enter Try.func30, Try.ntmps30
  go_wp2
  repeat (go_quiet (fail); try go_wp2)
  go_ret
  exact ⟨by first | rfl | (simp; done) | (simp [*]; done), by repeat (first | exact Drawn0.refl _ | apply Drawn0.step)⟩

/-! ### laws_eqRegOp: function 127 -/
def laws_eqRegOp.f (a0_0 : Int) (a0_1 : Int) (a0_2 : Int) (a1_0 : Int) (a1_1 : Int) (a1_2 : Int) : Option (Bool) := if a0_0 = a1_0 then (if a0_1 = a1_1 then (if a0_2 = a1_2 then (some true) else (some false)) else (some false)) else (some false)
set_option maxHeartbeats 8000000 in
set_option maxRecDepth 100000 in
theorem laws_eqRegOp.calls (a0_0 : Int) (a0_1 : Int) (a0_2 : Int) (a1_0 : Int) (a1_1 : Int) (a1_2 : Int) (r : Bool) (w : World) (h : laws_eqRegOp.f a0_0 a0_1 a0_2 a1_0 a1_1 a1_2 = some r) :
  Calls Try.prog 127 #[.agg #[.int .i64 a0_0, .int .i64 a0_1, .int .i64 a0_2], .agg #[.int .i64 a1_0, .int .i64 a1_1, .int .i64 a1_2]] w fun e w' => e = .returned (.bool r) ∧ Below w.heap.size w w' := by
 have hu80 := Try.underlying80
 have HB := Aside0.mk (Below.refl w.heap.size w)
 have H : (if a0_0 = a1_0 then (if a0_1 = a1_1 then (if a0_2 = a1_2 then (some true) else (some false)) else (some false)) else (some false)) = some r := h
 clear h
 by_cases c3 : a0_0 = a1_0
 ·rw [if_pos c3] at H
  have c3b0 : (a0_0 == a1_0) = true := beq_iff_eq.mpr c3
  have c3b1 : (a0_0 != a1_0) = false := bne_eq_false_iff_eq.mpr c3
  clear c3
  by_cases c4 : a0_1 = a1_1
  ·rw [if_pos c4] at H
   have c4b0 : (a0_1 == a1_1) = true := beq_iff_eq.mpr c4
   have c4b1 : (a0_1 != a1_1) = false := bne_eq_false_iff_eq.mpr c4
   clear c4
   by_cases c5 : a0_2 = a1_2
   ·rw [if_pos c5] at H
    have c5b0 : (a0_2 == a1_2) = true := beq_iff_eq.mpr c5
    have c5b1 : (a0_2 != a1_2) = false := bne_eq_false_iff_eq.mpr c5
    clear c5
    obtain rfl := Option.some.inj H
    go_enter Try.func127, Try.ntmps127
    go_wp2_with (first | ((with_reducible refine zaf (N := 2) rfl ?_); refine zad ?hg (N := 2) ?hd (cs := #[.int .i64 a0_0, .int .i64 a0_1, .int .i64 a0_2]) (t := 80) ?hr ?_; (case hd => rfl); (case hg => rfl); (case hr => first | (go_simp; done) | (go_simp; rfl)); intro gb301 hg w6 hbox hb; have n0_ := Aside0.mk (za8 bw_ hb); have n1_ := Aside0.mk (hbox); have n2_ := Aside0.mk ((by rw [hg]; exact (za6 bw_) : w.heap.size ≤ gb301)); have n3_ := Aside0.mk ((by rw [hg]; exact (za6 bw_) : w.heap.size ≤ gb301)); clear HB; have HB := n0_; have BK301 := n1_; have GW301 := n2_; have GE301 := n3_; clear n0_ n1_ n2_ n3_; clear hb hbox hg) | ((with_reducible refine zaf (N := 3) rfl ?_); refine zad ?hg (N := 3) ?hd (cs := #[.int .i64 a1_0, .int .i64 a1_1, .int .i64 a1_2]) (t := 80) ?hr ?_; (case hd => rfl); (case hg => rfl); (case hr => first | (go_simp; done) | (go_simp; rfl)); intro gb302 hg w7 hbox hb; have n0_ := Aside0.mk (za7 (g := gb301) (o := .cells #[.int .i64 a0_0, .int .i64 a0_1, .int .i64 a0_2] 80 (0, 0)) (by (with_reducible repeat (first | refine za3 ?_ _ | refine za4 ?_ | refine za2 ?_ _)); exact BK301.out) hb); have n1_ := Aside0.mk (za8 bw_ hb); have n2_ := Aside0.mk (hbox); have n3_ := Aside0.mk ((by rw [hg]; exact (za6 bw_) : w.heap.size ≤ gb302)); have n4_ := Aside0.mk ((by rw [hg]; exact (za6 bw_) : w.heap.size ≤ gb302)); have n5_ := Aside0.mk ((by rw [hg]; exact Nat.ne_of_lt (zan (g := gb301) (o := .cells #[.int .i64 a0_0, .int .i64 a0_1, .int .i64 a0_2] 80 (0, 0)) (by (with_reducible repeat (first | refine za3 ?_ _ | refine za4 ?_ | refine za2 ?_ _)); exact BK301.out)) : gb301 ≠ gb302)); have n6_ := Aside0.mk ((by rw [hg]; exact Nat.ne_of_gt (zan (g := gb301) (o := .cells #[.int .i64 a0_0, .int .i64 a0_1, .int .i64 a0_2] 80 (0, 0)) (by (with_reducible repeat (first | refine za3 ?_ _ | refine za4 ?_ | refine za2 ?_ _)); exact BK301.out)) : gb302 ≠ gb301)); clear BK301; clear HB; have BK301 := n0_; have HB := n1_; have BK302 := n2_; have GW302 := n3_; have GE302 := n4_; have NB301_302 := n5_; have NB302_301 := n6_; clear n0_ n1_ n2_ n3_ n4_ n5_ n6_; clear hb hbox hg; have hnb8 := NB301_302.out; have hnc8 := NB302_301.out; have hcz9_0 : w7.cell? ⟨gb301, 0, none⟩ = some (.int .i64 a0_0) := (za1 BK301.out 0).trans rfl; have hcz9_1 : w7.cell? ⟨gb301, 1, none⟩ = some (.int .i64 a0_1) := (za1 BK301.out 1).trans rfl; have hcz9_2 : w7.cell? ⟨gb301, 2, none⟩ = some (.int .i64 a0_2) := (za1 BK301.out 2).trans rfl; have hfz9_0 := za0 BK301.out 0; have hfz9_1 := za0 BK301.out 1; have hfz9_2 := za0 BK301.out 2; have hcz10_0 : w7.cell? ⟨gb302, 0, none⟩ = some (.int .i64 a1_0) := (za1 BK302.out 0).trans rfl; have hcz10_1 : w7.cell? ⟨gb302, 1, none⟩ = some (.int .i64 a1_1) := (za1 BK302.out 1).trans rfl; have hcz10_2 : w7.cell? ⟨gb302, 2, none⟩ = some (.int .i64 a1_2) := (za1 BK302.out 2).trans rfl; have hfz10_0 := za0 BK302.out 0; have hfz10_1 := za0 BK302.out 1; have hfz10_2 := za0 BK302.out 2))
    go_ret
    exact ⟨by first | rfl | (simp [zab, zaa] <;> rfl) | (simp [*, zab, zaa] <;> rfl), bw_⟩
   ·rw [if_neg c5] at H
    have c5b0 : (a0_2 == a1_2) = false := beq_eq_false_iff_ne.mpr c5
    have c5b1 : (a0_2 != a1_2) = true := bne_iff_ne.mpr c5
    obtain rfl := Option.some.inj H
    go_enter Try.func127, Try.ntmps127
    go_wp2_with (first | ((with_reducible refine zaf (N := 2) rfl ?_); refine zad ?hg (N := 2) ?hd (cs := #[.int .i64 a0_0, .int .i64 a0_1, .int .i64 a0_2]) (t := 80) ?hr ?_; (case hd => rfl); (case hg => rfl); (case hr => first | (go_simp; done) | (go_simp; rfl)); intro gb301 hg w11 hbox hb; have n0_ := Aside0.mk (za8 bw_ hb); have n1_ := Aside0.mk (hbox); have n2_ := Aside0.mk ((by rw [hg]; exact (za6 bw_) : w.heap.size ≤ gb301)); have n3_ := Aside0.mk ((by rw [hg]; exact (za6 bw_) : w.heap.size ≤ gb301)); clear HB; have HB := n0_; have BK301 := n1_; have GW301 := n2_; have GE301 := n3_; clear n0_ n1_ n2_ n3_; clear hb hbox hg) | ((with_reducible refine zaf (N := 3) rfl ?_); refine zad ?hg (N := 3) ?hd (cs := #[.int .i64 a1_0, .int .i64 a1_1, .int .i64 a1_2]) (t := 80) ?hr ?_; (case hd => rfl); (case hg => rfl); (case hr => first | (go_simp; done) | (go_simp; rfl)); intro gb302 hg w12 hbox hb; have n0_ := Aside0.mk (za7 (g := gb301) (o := .cells #[.int .i64 a0_0, .int .i64 a0_1, .int .i64 a0_2] 80 (0, 0)) (by (with_reducible repeat (first | refine za3 ?_ _ | refine za4 ?_ | refine za2 ?_ _)); exact BK301.out) hb); have n1_ := Aside0.mk (za8 bw_ hb); have n2_ := Aside0.mk (hbox); have n3_ := Aside0.mk ((by rw [hg]; exact (za6 bw_) : w.heap.size ≤ gb302)); have n4_ := Aside0.mk ((by rw [hg]; exact (za6 bw_) : w.heap.size ≤ gb302)); have n5_ := Aside0.mk ((by rw [hg]; exact Nat.ne_of_lt (zan (g := gb301) (o := .cells #[.int .i64 a0_0, .int .i64 a0_1, .int .i64 a0_2] 80 (0, 0)) (by (with_reducible repeat (first | refine za3 ?_ _ | refine za4 ?_ | refine za2 ?_ _)); exact BK301.out)) : gb301 ≠ gb302)); have n6_ := Aside0.mk ((by rw [hg]; exact Nat.ne_of_gt (zan (g := gb301) (o := .cells #[.int .i64 a0_0, .int .i64 a0_1, .int .i64 a0_2] 80 (0, 0)) (by (with_reducible repeat (first | refine za3 ?_ _ | refine za4 ?_ | refine za2 ?_ _)); exact BK301.out)) : gb302 ≠ gb301)); clear BK301; clear HB; have BK301 := n0_; have HB := n1_; have BK302 := n2_; have GW302 := n3_; have GE302 := n4_; have NB301_302 := n5_; have NB302_301 := n6_; clear n0_ n1_ n2_ n3_ n4_ n5_ n6_; clear hb hbox hg; have hnb13 := NB301_302.out; have hnc13 := NB302_301.out; have hcz14_0 : w12.cell? ⟨gb301, 0, none⟩ = some (.int .i64 a0_0) := (za1 BK301.out 0).trans rfl; have hcz14_1 : w12.cell? ⟨gb301, 1, none⟩ = some (.int .i64 a0_1) := (za1 BK301.out 1).trans rfl; have hcz14_2 : w12.cell? ⟨gb301, 2, none⟩ = some (.int .i64 a0_2) := (za1 BK301.out 2).trans rfl; have hfz14_0 := za0 BK301.out 0; have hfz14_1 := za0 BK301.out 1; have hfz14_2 := za0 BK301.out 2; have hcz15_0 : w12.cell? ⟨gb302, 0, none⟩ = some (.int .i64 a1_0) := (za1 BK302.out 0).trans rfl; have hcz15_1 : w12.cell? ⟨gb302, 1, none⟩ = some (.int .i64 a1_1) := (za1 BK302.out 1).trans rfl; have hcz15_2 : w12.cell? ⟨gb302, 2, none⟩ = some (.int .i64 a1_2) := (za1 BK302.out 2).trans rfl; have hfz15_0 := za0 BK302.out 0; have hfz15_1 := za0 BK302.out 1; have hfz15_2 := za0 BK302.out 2))
    go_ret
    exact ⟨by first | rfl | (simp [zab, zaa] <;> rfl) | (simp [*, zab, zaa] <;> rfl), bw_⟩
  ·rw [if_neg c4] at H
   have c4b0 : (a0_1 == a1_1) = false := beq_eq_false_iff_ne.mpr c4
   have c4b1 : (a0_1 != a1_1) = true := bne_iff_ne.mpr c4
   obtain rfl := Option.some.inj H
   go_enter Try.func127, Try.ntmps127
   go_wp2_with (first | ((with_reducible refine zaf (N := 2) rfl ?_); refine zad ?hg (N := 2) ?hd (cs := #[.int .i64 a0_0, .int .i64 a0_1, .int .i64 a0_2]) (t := 80) ?hr ?_; (case hd => rfl); (case hg => rfl); (case hr => first | (go_simp; done) | (go_simp; rfl)); intro gb301 hg w16 hbox hb; have n0_ := Aside0.mk (za8 bw_ hb); have n1_ := Aside0.mk (hbox); have n2_ := Aside0.mk ((by rw [hg]; exact (za6 bw_) : w.heap.size ≤ gb301)); have n3_ := Aside0.mk ((by rw [hg]; exact (za6 bw_) : w.heap.size ≤ gb301)); clear HB; have HB := n0_; have BK301 := n1_; have GW301 := n2_; have GE301 := n3_; clear n0_ n1_ n2_ n3_; clear hb hbox hg) | ((with_reducible refine zaf (N := 3) rfl ?_); refine zad ?hg (N := 3) ?hd (cs := #[.int .i64 a1_0, .int .i64 a1_1, .int .i64 a1_2]) (t := 80) ?hr ?_; (case hd => rfl); (case hg => rfl); (case hr => first | (go_simp; done) | (go_simp; rfl)); intro gb302 hg w17 hbox hb; have n0_ := Aside0.mk (za7 (g := gb301) (o := .cells #[.int .i64 a0_0, .int .i64 a0_1, .int .i64 a0_2] 80 (0, 0)) (by (with_reducible repeat (first | refine za3 ?_ _ | refine za4 ?_ | refine za2 ?_ _)); exact BK301.out) hb); have n1_ := Aside0.mk (za8 bw_ hb); have n2_ := Aside0.mk (hbox); have n3_ := Aside0.mk ((by rw [hg]; exact (za6 bw_) : w.heap.size ≤ gb302)); have n4_ := Aside0.mk ((by rw [hg]; exact (za6 bw_) : w.heap.size ≤ gb302)); have n5_ := Aside0.mk ((by rw [hg]; exact Nat.ne_of_lt (zan (g := gb301) (o := .cells #[.int .i64 a0_0, .int .i64 a0_1, .int .i64 a0_2] 80 (0, 0)) (by (with_reducible repeat (first | refine za3 ?_ _ | refine za4 ?_ | refine za2 ?_ _)); exact BK301.out)) : gb301 ≠ gb302)); have n6_ := Aside0.mk ((by rw [hg]; exact Nat.ne_of_gt (zan (g := gb301) (o := .cells #[.int .i64 a0_0, .int .i64 a0_1, .int .i64 a0_2] 80 (0, 0)) (by (with_reducible repeat (first | refine za3 ?_ _ | refine za4 ?_ | refine za2 ?_ _)); exact BK301.out)) : gb302 ≠ gb301)); clear BK301; clear HB; have BK301 := n0_; have HB := n1_; have BK302 := n2_; have GW302 := n3_; have GE302 := n4_; have NB301_302 := n5_; have NB302_301 := n6_; clear n0_ n1_ n2_ n3_ n4_ n5_ n6_; clear hb hbox hg; have hnb18 := NB301_302.out; have hnc18 := NB302_301.out; have hcz19_0 : w17.cell? ⟨gb301, 0, none⟩ = some (.int .i64 a0_0) := (za1 BK301.out 0).trans rfl; have hcz19_1 : w17.cell? ⟨gb301, 1, none⟩ = some (.int .i64 a0_1) := (za1 BK301.out 1).trans rfl; have hcz19_2 : w17.cell? ⟨gb301, 2, none⟩ = some (.int .i64 a0_2) := (za1 BK301.out 2).trans rfl; have hfz19_0 := za0 BK301.out 0; have hfz19_1 := za0 BK301.out 1; have hfz19_2 := za0 BK301.out 2; have hcz20_0 : w17.cell? ⟨gb302, 0, none⟩ = some (.int .i64 a1_0) := (za1 BK302.out 0).trans rfl; have hcz20_1 : w17.cell? ⟨gb302, 1, none⟩ = some (.int .i64 a1_1) := (za1 BK302.out 1).trans rfl; have hcz20_2 : w17.cell? ⟨gb302, 2, none⟩ = some (.int .i64 a1_2) := (za1 BK302.out 2).trans rfl; have hfz20_0 := za0 BK302.out 0; have hfz20_1 := za0 BK302.out 1; have hfz20_2 := za0 BK302.out 2))
   go_ret
   exact ⟨by first | rfl | (simp [zab, zaa] <;> rfl) | (simp [*, zab, zaa] <;> rfl), bw_⟩
 ·rw [if_neg c3] at H
  have c3b0 : (a0_0 == a1_0) = false := beq_eq_false_iff_ne.mpr c3
  have c3b1 : (a0_0 != a1_0) = true := bne_iff_ne.mpr c3
  obtain rfl := Option.some.inj H
  go_enter Try.func127, Try.ntmps127
  go_wp2_with (first | ((with_reducible refine zaf (N := 2) rfl ?_); refine zad ?hg (N := 2) ?hd (cs := #[.int .i64 a0_0, .int .i64 a0_1, .int .i64 a0_2]) (t := 80) ?hr ?_; (case hd => rfl); (case hg => rfl); (case hr => first | (go_simp; done) | (go_simp; rfl)); intro gb301 hg w21 hbox hb; have n0_ := Aside0.mk (za8 bw_ hb); have n1_ := Aside0.mk (hbox); have n2_ := Aside0.mk ((by rw [hg]; exact (za6 bw_) : w.heap.size ≤ gb301)); have n3_ := Aside0.mk ((by rw [hg]; exact (za6 bw_) : w.heap.size ≤ gb301)); clear HB; have HB := n0_; have BK301 := n1_; have GW301 := n2_; have GE301 := n3_; clear n0_ n1_ n2_ n3_; clear hb hbox hg) | ((with_reducible refine zaf (N := 3) rfl ?_); refine zad ?hg (N := 3) ?hd (cs := #[.int .i64 a1_0, .int .i64 a1_1, .int .i64 a1_2]) (t := 80) ?hr ?_; (case hd => rfl); (case hg => rfl); (case hr => first | (go_simp; done) | (go_simp; rfl)); intro gb302 hg w22 hbox hb; have n0_ := Aside0.mk (za7 (g := gb301) (o := .cells #[.int .i64 a0_0, .int .i64 a0_1, .int .i64 a0_2] 80 (0, 0)) (by (with_reducible repeat (first | refine za3 ?_ _ | refine za4 ?_ | refine za2 ?_ _)); exact BK301.out) hb); have n1_ := Aside0.mk (za8 bw_ hb); have n2_ := Aside0.mk (hbox); have n3_ := Aside0.mk ((by rw [hg]; exact (za6 bw_) : w.heap.size ≤ gb302)); have n4_ := Aside0.mk ((by rw [hg]; exact (za6 bw_) : w.heap.size ≤ gb302)); have n5_ := Aside0.mk ((by rw [hg]; exact Nat.ne_of_lt (zan (g := gb301) (o := .cells #[.int .i64 a0_0, .int .i64 a0_1, .int .i64 a0_2] 80 (0, 0)) (by (with_reducible repeat (first | refine za3 ?_ _ | refine za4 ?_ | refine za2 ?_ _)); exact BK301.out)) : gb301 ≠ gb302)); have n6_ := Aside0.mk ((by rw [hg]; exact Nat.ne_of_gt (zan (g := gb301) (o := .cells #[.int .i64 a0_0, .int .i64 a0_1, .int .i64 a0_2] 80 (0, 0)) (by (with_reducible repeat (first | refine za3 ?_ _ | refine za4 ?_ | refine za2 ?_ _)); exact BK301.out)) : gb302 ≠ gb301)); clear BK301; clear HB; have BK301 := n0_; have HB := n1_; have BK302 := n2_; have GW302 := n3_; have GE302 := n4_; have NB301_302 := n5_; have NB302_301 := n6_; clear n0_ n1_ n2_ n3_ n4_ n5_ n6_; clear hb hbox hg; have hnb23 := NB301_302.out; have hnc23 := NB302_301.out; have hcz24_0 : w22.cell? ⟨gb301, 0, none⟩ = some (.int .i64 a0_0) := (za1 BK301.out 0).trans rfl; have hcz24_1 : w22.cell? ⟨gb301, 1, none⟩ = some (.int .i64 a0_1) := (za1 BK301.out 1).trans rfl; have hcz24_2 : w22.cell? ⟨gb301, 2, none⟩ = some (.int .i64 a0_2) := (za1 BK301.out 2).trans rfl; have hfz24_0 := za0 BK301.out 0; have hfz24_1 := za0 BK301.out 1; have hfz24_2 := za0 BK301.out 2; have hcz25_0 : w22.cell? ⟨gb302, 0, none⟩ = some (.int .i64 a1_0) := (za1 BK302.out 0).trans rfl; have hcz25_1 : w22.cell? ⟨gb302, 1, none⟩ = some (.int .i64 a1_1) := (za1 BK302.out 1).trans rfl; have hcz25_2 : w22.cell? ⟨gb302, 2, none⟩ = some (.int .i64 a1_2) := (za1 BK302.out 2).trans rfl; have hfz25_0 := za0 BK302.out 0; have hfz25_1 := za0 BK302.out 1; have hfz25_2 := za0 BK302.out 2))
  go_ret
  exact ⟨by first | rfl | (simp [zab, zaa] <;> rfl) | (simp [*, zab, zaa] <;> rfl), bw_⟩

/-! ### laws_eqRegOpS: function 61 -/
def laws_eqRegOpS.l0 : Nat → List (S80) → List (S80) → Int → Option (Bool)
 | 0, _, _, _ => none
 | k + 1, x0, x1, x5 => if x5 < (x0.length : Int) then (if 0 ≤ x5 then (if x5 < (x1.length : Int) then ((laws_eqRegOp.f ((zae x0 x5).f0) ((zae x0 x5).f1) ((zae x0 x5).f2) ((zae x1 x5).f0) ((zae x1 x5).f1) ((zae x1 x5).f2)).bind fun t305 => (if t305 = true then (laws_eqRegOpS.l0 k x0 x1 (wrap64 (x5 + 1))) else (some false))) else (none)) else (none)) else (some true)
def laws_eqRegOpS.f (k : Nat) (l0 : List (S80)) (l1 : List (S80)) : Option (Bool) := if (l0.length : Int) = (l1.length : Int) then (laws_eqRegOpS.l0 k l0 l1 0) else (some false)
theorem laws_eqRegOpS.zb5 : ∀ k, (∀ y0 y1 y2, LeO (laws_eqRegOpS.l0 k y0 y1 y2) (laws_eqRegOpS.l0 (k + 1) y0 y1 y2))
 | 0 => fun _ _ _ r h => by simp [laws_eqRegOpS.l0] at h
 | k + 1 => by
  have ih0 := laws_eqRegOpS.zb5 k
  ·intro y0 y1 y2
   unfold laws_eqRegOpS.l0
   repeat' first
   | (with_reducible exact ih0 _ _ _)
   | (with_reducible exact LeO.refl _)
   | (with_reducible exact LeO.none _)
   | (with_reducible refine LeO.ite ?_ ?_)
   | (with_reducible refine LeO.bind ?_ (fun _ => ?_))
   | exact ih0 _ _ _
   | exact LeO.none _
   | refine LeO.ite ?_ ?_
   | refine LeO.bind ?_ (fun _ => ?_)
theorem laws_eqRegOpS.mono : ∀ a0 a1 k, LeO (laws_eqRegOpS.f k a0 a1) (laws_eqRegOpS.f (k + 1) a0 a1) := by
 intro a0 a1 k
 have ih0 := laws_eqRegOpS.zb5 k
 unfold laws_eqRegOpS.f
 repeat' first
   | (with_reducible exact ih0 _ _ _)
   | (with_reducible exact LeO.refl _)
   | (with_reducible exact LeO.none _)
   | (with_reducible refine LeO.ite ?_ ?_)
   | (with_reducible refine LeO.bind ?_ (fun _ => ?_))
   | exact ih0 _ _ _
   | exact LeO.none _
   | refine LeO.ite ?_ ?_
   | refine LeO.bind ?_ (fun _ => ?_)
def laws_eqRegOpS.T6 : Bool × List (List Nat × List Nat) := (true, [([], []), ([], []), ([0, 1], [0, 1]), ([2], [2]), ([], []), ([], []), ([4, 5], [4, 5]), ([6], [6]), ([3, 7], [3, 7]), ([8], [8])])
def laws_eqRegOpS.B6 : List Nat := [0, 0, 3, 7, 0, 0, 48, 112, 255, 511]
theorem laws_eqRegOpS.tab6 : rtab .any (opsOf Try.f61 6) = laws_eqRegOpS.T6 := by kernel_rfl
theorem laws_eqRegOpS.bits6 : waitsOk laws_eqRegOpS.T6.2 laws_eqRegOpS.B6 = true := by kernel_rfl
set_option maxHeartbeats 8000000 in
set_option maxRecDepth 100000 in
theorem laws_eqRegOpS.calls (k : Nat) (A0 : Option Addr) (c0 : Nat) (l0 : List (S80)) (A1 : Option Addr) (c1 : Nat) (l1 : List (S80)) (r : Bool) (w : World) (hr0 : Kd.C k80 w A0 l0.length l0) (hc0 : l0.length ≤ c0) (hr1 : Kd.C k80 w A1 l1.length l1) (hc1 : l1.length ≤ c1) (h : laws_eqRegOpS.f k l0 l1 = some r) :
  Calls Try.prog 61 #[.slice A0 l0.length c0, .slice A1 l1.length c1] w fun e w' => e = .returned (.bool r) ∧ Below w.heap.size w w' := by
 have hu80 := Try.underlying80
 have HR0 := Aside0.mk hr0
 have HC0 := Aside0.mk hc0
 clear hr0 hc0
 have HR1 := Aside0.mk hr1
 have HC1 := Aside0.mk hc1
 clear hr1 hc1
 have HB := Aside0.mk (Below.refl w.heap.size w)
 have H : (if (l0.length : Int) = (l1.length : Int) then (laws_eqRegOpS.l0 k l0 l1 0) else (some false)) = some r := h
 clear h
 by_cases c3 : (l0.length : Int) = (l1.length : Int)
 ·rw [if_pos c3] at H
  have c3b0 : ((l0.length : Int) == (l1.length : Int)) = true := beq_iff_eq.mpr c3
  have c3b1 : ((l0.length : Int) != (l1.length : Int)) = false := bne_eq_false_iff_eq.mpr c3
  have c3b2 : (l0.length == l1.length) = true := by first | simpa using c3 | (simp at c3 ⊢; omega)
  clear c3
  have H' := Aside0.mk H
  clear H
  go_enter Try.func61, Try.ntmps61
  go_wp2
  go_loopg [5] k (fun kq v5 w' => ∃ (x5_1 : Int), v5 = .int .i64 x5_1 ∧ Aside0 (laws_eqRegOpS.l0 kq l0 l1 x5_1 = some r) ∧ Aside0 (kq ≤ k) ∧ Aside0 (Below w.heap.size w w'))
  case atStart => exact ⟨(0), (by first | rfl | (simp; done) | (simp [*]; done)), H', ⟨Nat.le_refl _⟩, ⟨bw_⟩⟩
  case round =>
   clear H'
   try clear c1
   try clear p2
   try clear c3
   try clear c3b0
   try clear c3b1
   try clear c3b2
   obtain ⟨x5_1, rfl, HA, HK1, HB⟩ := hrel
   cases gk with
   | zero => exact absurd HA.out (by simp [laws_eqRegOpS.l0])
   | succ k1 =>
    have H := HA.out
    clear HA
    simp only [laws_eqRegOpS.l0] at H
    by_cases c4 : x5_1 < (l0.length : Int)
    ·rw [if_pos c4] at H
     have c4b0 : decide (x5_1 < (l0.length : Int)) = true := decide_eq_true c4
     clear c4
     by_cases c5 : 0 ≤ x5_1
     ·rw [if_pos c5] at H
      have c5b0 : decide (0 ≤ x5_1) = true := decide_eq_true c5
      clear c5
      by_cases c6 : x5_1 < (l1.length : Int)
      ·rw [if_pos c6] at H
       have c6b0 : decide (x5_1 < (l1.length : Int)) = true := decide_eq_true c6
       clear c6
       replace H := Option.bind_eq_some_iff.mp H
       obtain ⟨t305, A70, H⟩ := H
       replace H : (if t305 = true then (laws_eqRegOpS.l0 k1 l0 l1 (wrap64 (x5_1 + 1))) else (some false)) = some r := H
       have A7 := Aside0.mk A70
       clear A70
       by_cases c8 : t305 = true
       ·subst c8
        have H1 : (laws_eqRegOpS.l0 k1 l0 l1 (wrap64 (x5_1 + 1))) = some r := by rw [if_pos rfl] at H; exact H
        clear H
        have H := H1
        clear H1
        have H' := Aside0.mk H
        clear H
        try go_wp2
        have n0_ := Aside0.mk (zav HB.out)
        clear HB
        have HB := n0_
        clear n0_
        have p303 : 0 ≤ (x5_1 : Int) := of_decide_eq_true (by first | (with_reducible assumption) | assumption)
        have q303 : x5_1 < (l0.length : Int) := of_decide_eq_true (by first | (with_reducible assumption) | assumption)
        obtain ⟨ad303, e303, hx303_0, hx303_1, hx303_2⟩ := at_T80 HR0.out x5_1 p303 q303
        have hw303_2 := hx303_2
        have hw303_1 := hx303_1
        have hw303_0 := hx303_0
        cases e303
        replace hx303_0 := (HB.out.cell (World.block_lt_of_cell? w _ hx303_0)).trans hx303_0
        replace hx303_1 := (HB.out.cell (World.block_lt_of_cell? w _ hx303_1)).trans hx303_1
        replace hx303_2 := (HB.out.cell (World.block_lt_of_cell? w _ hx303_2)).trans hx303_2
        replace p303 := eq_true p303
        replace q303 := eq_true q303
        have p304 : 0 ≤ (x5_1 : Int) := of_decide_eq_true (by first | (with_reducible assumption) | assumption)
        have q304 : x5_1 < (l1.length : Int) := of_decide_eq_true (by first | (with_reducible assumption) | assumption)
        obtain ⟨ad304, e304, hx304_0, hx304_1, hx304_2⟩ := at_T80 HR1.out x5_1 p304 q304
        have hw304_2 := hx304_2
        have hw304_1 := hx304_1
        have hw304_0 := hx304_0
        cases e304
        replace hx304_0 := (HB.out.cell (World.block_lt_of_cell? w _ hx304_0)).trans hx304_0
        replace hx304_1 := (HB.out.cell (World.block_lt_of_cell? w _ hx304_1)).trans hx304_1
        replace hx304_2 := (HB.out.cell (World.block_lt_of_cell? w _ hx304_2)).trans hx304_2
        replace p304 := eq_true p304
        replace q304 := eq_true q304
        refine start_ (n := 10) (S := fun w' => w'.cell? (ad303.add ((x5_1).toNat * 3)) = some (.int .i64 ((zae l0 x5_1).f0)) ∧ w'.cell? ⟨(ad303.add ((x5_1).toNat * 3)).block, (ad303.add ((x5_1).toNat * 3)).off + 1, none⟩ = some (.int .i64 ((zae l0 x5_1).f1)) ∧ w'.cell? ⟨(ad303.add ((x5_1).toNat * 3)).block, (ad303.add ((x5_1).toNat * 3)).off + 2, none⟩ = some (.int .i64 ((zae l0 x5_1).f2)) ∧ w'.cell? (ad304.add ((x5_1).toNat * 3)) = some (.int .i64 ((zae l1 x5_1).f0)) ∧ w'.cell? ⟨(ad304.add ((x5_1).toNat * 3)).block, (ad304.add ((x5_1).toNat * 3)).off + 1, none⟩ = some (.int .i64 ((zae l1 x5_1).f1)) ∧ w'.cell? ⟨(ad304.add ((x5_1).toNat * 3)).block, (ad304.add ((x5_1).toNat * 3)).off + 2, none⟩ = some (.int .i64 ((zae l1 x5_1).f2))) (ds := []) #[false, false, false, false, false, false, false, false, false, false] (by kernel_rfl) rfl rfl ⟨((HB.out.cell (World.block_lt_of_cell? w _ hw303_0)).trans hw303_0), ((HB.out.cell (World.block_lt_of_cell? w _ hw303_1)).trans hw303_1), ((HB.out.cell (World.block_lt_of_cell? w _ hw303_2)).trans hw303_2), ((HB.out.cell (World.block_lt_of_cell? w _ hw304_0)).trans hw304_0), ((HB.out.cell (World.block_lt_of_cell? w _ hw304_1)).trans hw304_1), ((HB.out.cell (World.block_lt_of_cell? w _ hw304_2)).trans hw304_2)⟩ (fun hHeld => ?_); refine with_tabW laws_eqRegOpS.tab6 laws_eqRegOpS.bits6 (fun HT_ HW_ => ?_)
        generalize wr.drew = w9 at HB hx303_0 hx303_1 hx303_2 hx304_0 hx304_1 hx304_2 hHeld ⊢
        refine pure_ (i := 0) (N := some 17) (v := ?_) (a' := ?_) #[true, false, false, false, false, false, false, false, false, false] rfl rfl (zaw HT_.out (by kernel_rfl)) (fun _ _ _ h => h) (Or.inl ⟨by rfl, ?_⟩) ?_ ?_
        rotate_left
        ·intro w'
         go_simp
         with_reducible rfl
        rotate_left
        ·simp only [Act.put, sa_, sb_, sc_, i64_w, i32_w]
         rfl
        refine pure_ (i := 1) (N := some 18) (v := ?_) (a' := ?_) #[true, true, false, false, false, false, false, false, false, false] rfl rfl (zaw HT_.out (by kernel_rfl)) (fun _ _ _ h => h) (Or.inl ⟨by rfl, ?_⟩) ?_ ?_
        rotate_left
        ·intro w'
         go_simp
         with_reducible rfl
        rotate_left
        ·simp only [Act.put, sa_, sb_, sc_, i64_w, i32_w]
         rfl
        refine pure_ (i := 2) (N := some 19) (v := ?_) (a' := ?_) #[true, true, true, false, false, false, false, false, false, false] rfl rfl (zaw HT_.out (by kernel_rfl)) (fun _ _ _ h => h) (Or.inl ⟨by rfl, ?_⟩) ?_ ?_
        rotate_left
        ·intro w'
         go_simp
         with_reducible rfl
        rotate_left
        ·simp only [Act.put, sa_, sb_, sc_, i64_w, i32_w]
         rfl
        refine pure_ (i := 4) (N := some 21) (v := ?_) (a' := ?_) #[true, true, true, false, true, false, false, false, false, false] rfl rfl (zaw HT_.out (by kernel_rfl)) (fun _ _ _ h => h) (Or.inl ⟨by rfl, ?_⟩) ?_ ?_
        rotate_left
        ·intro w'
         go_simp
         with_reducible rfl
        rotate_left
        ·simp only [Act.put, sa_, sb_, sc_, i64_w, i32_w]
         rfl
        refine pure_ (i := 5) (N := some 22) (v := ?_) (a' := ?_) #[true, true, true, false, true, true, false, false, false, false] rfl rfl (zaw HT_.out (by kernel_rfl)) (fun _ _ _ h => h) (Or.inl ⟨by rfl, ?_⟩) ?_ ?_
        rotate_left
        ·intro w'
         go_simp
         with_reducible rfl
        rotate_left
        ·simp only [Act.put, sa_, sb_, sc_, i64_w, i32_w]
         rfl
        refine pure_ (i := 6) (N := some 23) (v := ?_) (a' := ?_) #[true, true, true, false, true, true, true, false, false, false] rfl rfl (zaw HT_.out (by kernel_rfl)) (fun _ _ _ h => h) (Or.inl ⟨by rfl, ?_⟩) ?_ ?_
        rotate_left
        ·intro w'
         go_simp
         with_reducible rfl
        rotate_left
        ·simp only [Act.put, sa_, sb_, sc_, i64_w, i32_w]
         rfl
        refine take_ (i := 3) (N := some 20) (v := ?_) (a' := ?_) #[true, true, true, true, true, true, true, false, false, false] rfl rfl (take_ofW HT_.out HW_.out (by kernel_rfl)) (fun _ _ _ h => h) (Or.inl ⟨by rfl, ?_⟩) hHeld ?_ ?_
        rotate_left
        ·rintro w' ⟨s0, s1, s2, s3, s4, s5⟩
         go_simp
         with_reducible rfl
        rotate_left
        ·simp only [Act.put, sa_, sb_, sc_, i64_w, i32_w]
         rfl
        refine take_ (i := 7) (N := some 24) (v := ?_) (a' := ?_) #[true, true, true, true, true, true, true, true, false, false] rfl rfl (take_ofW HT_.out HW_.out (by kernel_rfl)) (fun _ _ _ h => h) (Or.inl ⟨by rfl, ?_⟩) hHeld ?_ ?_
        rotate_left
        ·rintro w' ⟨s0, s1, s2, s3, s4, s5⟩
         go_simp
         with_reducible rfl
        rotate_left
        ·simp only [Act.put, sa_, sb_, sc_, i64_w, i32_w]
         rfl
        refine one_ (i := 8) (N := some 25) #[true, true, true, true, true, true, true, true, true, false] rfl rfl (one_of HT_.out (by kernel_rfl)) (by decide) (fun K hK => ?_)
        refine goes_ Try.func127 (by kernel_rfl) rfl #[.agg #[.int .i64 ((zae l0 x5_1).f0), .int .i64 ((zae l0 x5_1).f1), .int .i64 ((zae l0 x5_1).f2)], .agg #[.int .i64 ((zae l1 x5_1).f0), .int .i64 ((zae l1 x5_1).f1), .int .i64 ((zae l1 x5_1).f2)]] (by rfl) rfl rfl (by (try simp only [List.map_toArray, List.map_cons, List.map_nil]); first | done | rfl | (simp only [List.length_drop, List.length_take]; rfl)) ?_
        with_reducible refine (laws_eqRegOp.calls ((zae l0 x5_1).f0) ((zae l0 x5_1).f1) ((zae l0 x5_1).f2) ((zae l1 x5_1).f0) ((zae l1 x5_1).f1) ((zae l1 x5_1).f2) true _ A7.out).mono ?_
        rintro e w10 ⟨rfl, hb⟩
        refine ⟨_, rfl, ?_⟩
        have n0_ := Aside0.mk (za8 bw_ hb)
        clear HB
        have HB := n0_
        clear n0_
        (try clear hb)
        (try clear hb2)
        (try clear hk)
        (try clear hi)
        refine hK.out _ _ ⟨((HB.out.cell (World.block_lt_of_cell? w _ hw303_0)).trans hw303_0), ((HB.out.cell (World.block_lt_of_cell? w _ hw303_1)).trans hw303_1), ((HB.out.cell (World.block_lt_of_cell? w _ hw303_2)).trans hw303_2), ((HB.out.cell (World.block_lt_of_cell? w _ hw304_0)).trans hw304_0), ((HB.out.cell (World.block_lt_of_cell? w _ hw304_1)).trans hw304_1), ((HB.out.cell (World.block_lt_of_cell? w _ hw304_2)).trans hw304_2)⟩ (fun hHeld => ?_)
        clear hK K
        refine norm_ (a' := ?_) ?_ ?_
        rotate_left
        ·show Act.put _ (some 25) _ = _
         simp only [Act.put, sa_, sb_, sc_, i64_w, i32_w]
         rfl
        refine pure_ (i := 9) (N := some 26) (v := ?_) (a' := ?_) #[true, true, true, true, true, true, true, true, true, true] rfl rfl (zaw HT_.out (by kernel_rfl)) (fun _ _ _ h => h) (Or.inl ⟨by rfl, ?_⟩) ?_ ?_
        rotate_left
        ·intro w'
         go_simp
         with_reducible rfl
        rotate_left
        ·simp only [Act.put, sa_, sb_, sc_, i64_w, i32_w]
         rfl
        refine done_ (done_of HT_.out (by kernel_rfl)) ?_
        try go_wp2
        go_roundg k1
        case measure => have := HK1.out; omega
        case rel => exact ⟨(wrap64 (x5_1 + 1)), (by first | rfl | (simp; done) | (simp [*]; done)), H', ⟨by have := HK1.out; omega⟩, ⟨bw_⟩⟩
       ·replace c8 := Bool.eq_false_iff.mpr c8
        subst c8
        have H1 : (some false) = some r := by rw [if_neg (show ¬ (false = true) by decide)] at H; exact H
        clear H
        have H := H1
        clear H1
        obtain rfl := Option.some.inj H
        try go_wp2
        have n0_ := Aside0.mk (zav HB.out)
        clear HB
        have HB := n0_
        clear n0_
        have p303 : 0 ≤ (x5_1 : Int) := of_decide_eq_true (by first | (with_reducible assumption) | assumption)
        have q303 : x5_1 < (l0.length : Int) := of_decide_eq_true (by first | (with_reducible assumption) | assumption)
        obtain ⟨ad303, e303, hx303_0, hx303_1, hx303_2⟩ := at_T80 HR0.out x5_1 p303 q303
        have hw303_2 := hx303_2
        have hw303_1 := hx303_1
        have hw303_0 := hx303_0
        cases e303
        replace hx303_0 := (HB.out.cell (World.block_lt_of_cell? w _ hx303_0)).trans hx303_0
        replace hx303_1 := (HB.out.cell (World.block_lt_of_cell? w _ hx303_1)).trans hx303_1
        replace hx303_2 := (HB.out.cell (World.block_lt_of_cell? w _ hx303_2)).trans hx303_2
        replace p303 := eq_true p303
        replace q303 := eq_true q303
        have p304 : 0 ≤ (x5_1 : Int) := of_decide_eq_true (by first | (with_reducible assumption) | assumption)
        have q304 : x5_1 < (l1.length : Int) := of_decide_eq_true (by first | (with_reducible assumption) | assumption)
        obtain ⟨ad304, e304, hx304_0, hx304_1, hx304_2⟩ := at_T80 HR1.out x5_1 p304 q304
        have hw304_2 := hx304_2
        have hw304_1 := hx304_1
        have hw304_0 := hx304_0
        cases e304
        replace hx304_0 := (HB.out.cell (World.block_lt_of_cell? w _ hx304_0)).trans hx304_0
        replace hx304_1 := (HB.out.cell (World.block_lt_of_cell? w _ hx304_1)).trans hx304_1
        replace hx304_2 := (HB.out.cell (World.block_lt_of_cell? w _ hx304_2)).trans hx304_2
        replace p304 := eq_true p304
        replace q304 := eq_true q304
        refine start_ (n := 10) (S := fun w' => w'.cell? (ad303.add ((x5_1).toNat * 3)) = some (.int .i64 ((zae l0 x5_1).f0)) ∧ w'.cell? ⟨(ad303.add ((x5_1).toNat * 3)).block, (ad303.add ((x5_1).toNat * 3)).off + 1, none⟩ = some (.int .i64 ((zae l0 x5_1).f1)) ∧ w'.cell? ⟨(ad303.add ((x5_1).toNat * 3)).block, (ad303.add ((x5_1).toNat * 3)).off + 2, none⟩ = some (.int .i64 ((zae l0 x5_1).f2)) ∧ w'.cell? (ad304.add ((x5_1).toNat * 3)) = some (.int .i64 ((zae l1 x5_1).f0)) ∧ w'.cell? ⟨(ad304.add ((x5_1).toNat * 3)).block, (ad304.add ((x5_1).toNat * 3)).off + 1, none⟩ = some (.int .i64 ((zae l1 x5_1).f1)) ∧ w'.cell? ⟨(ad304.add ((x5_1).toNat * 3)).block, (ad304.add ((x5_1).toNat * 3)).off + 2, none⟩ = some (.int .i64 ((zae l1 x5_1).f2))) (ds := []) #[false, false, false, false, false, false, false, false, false, false] (by kernel_rfl) rfl rfl ⟨((HB.out.cell (World.block_lt_of_cell? w _ hw303_0)).trans hw303_0), ((HB.out.cell (World.block_lt_of_cell? w _ hw303_1)).trans hw303_1), ((HB.out.cell (World.block_lt_of_cell? w _ hw303_2)).trans hw303_2), ((HB.out.cell (World.block_lt_of_cell? w _ hw304_0)).trans hw304_0), ((HB.out.cell (World.block_lt_of_cell? w _ hw304_1)).trans hw304_1), ((HB.out.cell (World.block_lt_of_cell? w _ hw304_2)).trans hw304_2)⟩ (fun hHeld => ?_); refine with_tabW laws_eqRegOpS.tab6 laws_eqRegOpS.bits6 (fun HT_ HW_ => ?_)
        generalize wr.drew = w11 at HB hx303_0 hx303_1 hx303_2 hx304_0 hx304_1 hx304_2 hHeld ⊢
        refine pure_ (i := 0) (N := some 17) (v := ?_) (a' := ?_) #[true, false, false, false, false, false, false, false, false, false] rfl rfl (zaw HT_.out (by kernel_rfl)) (fun _ _ _ h => h) (Or.inl ⟨by rfl, ?_⟩) ?_ ?_
        rotate_left
        ·intro w'
         go_simp
         with_reducible rfl
        rotate_left
        ·simp only [Act.put, sa_, sb_, sc_, i64_w, i32_w]
         rfl
        refine pure_ (i := 1) (N := some 18) (v := ?_) (a' := ?_) #[true, true, false, false, false, false, false, false, false, false] rfl rfl (zaw HT_.out (by kernel_rfl)) (fun _ _ _ h => h) (Or.inl ⟨by rfl, ?_⟩) ?_ ?_
        rotate_left
        ·intro w'
         go_simp
         with_reducible rfl
        rotate_left
        ·simp only [Act.put, sa_, sb_, sc_, i64_w, i32_w]
         rfl
        refine pure_ (i := 2) (N := some 19) (v := ?_) (a' := ?_) #[true, true, true, false, false, false, false, false, false, false] rfl rfl (zaw HT_.out (by kernel_rfl)) (fun _ _ _ h => h) (Or.inl ⟨by rfl, ?_⟩) ?_ ?_
        rotate_left
        ·intro w'
         go_simp
         with_reducible rfl
        rotate_left
        ·simp only [Act.put, sa_, sb_, sc_, i64_w, i32_w]
         rfl
        refine pure_ (i := 4) (N := some 21) (v := ?_) (a' := ?_) #[true, true, true, false, true, false, false, false, false, false] rfl rfl (zaw HT_.out (by kernel_rfl)) (fun _ _ _ h => h) (Or.inl ⟨by rfl, ?_⟩) ?_ ?_
        rotate_left
        ·intro w'
         go_simp
         with_reducible rfl
        rotate_left
        ·simp only [Act.put, sa_, sb_, sc_, i64_w, i32_w]
         rfl
        refine pure_ (i := 5) (N := some 22) (v := ?_) (a' := ?_) #[true, true, true, false, true, true, false, false, false, false] rfl rfl (zaw HT_.out (by kernel_rfl)) (fun _ _ _ h => h) (Or.inl ⟨by rfl, ?_⟩) ?_ ?_
        rotate_left
        ·intro w'
         go_simp
         with_reducible rfl
        rotate_left
        ·simp only [Act.put, sa_, sb_, sc_, i64_w, i32_w]
         rfl
        refine pure_ (i := 6) (N := some 23) (v := ?_) (a' := ?_) #[true, true, true, false, true, true, true, false, false, false] rfl rfl (zaw HT_.out (by kernel_rfl)) (fun _ _ _ h => h) (Or.inl ⟨by rfl, ?_⟩) ?_ ?_
        rotate_left
        ·intro w'
         go_simp
         with_reducible rfl
        rotate_left
        ·simp only [Act.put, sa_, sb_, sc_, i64_w, i32_w]
         rfl
        refine take_ (i := 3) (N := some 20) (v := ?_) (a' := ?_) #[true, true, true, true, true, true, true, false, false, false] rfl rfl (take_ofW HT_.out HW_.out (by kernel_rfl)) (fun _ _ _ h => h) (Or.inl ⟨by rfl, ?_⟩) hHeld ?_ ?_
        rotate_left
        ·rintro w' ⟨s0, s1, s2, s3, s4, s5⟩
         go_simp
         with_reducible rfl
        rotate_left
        ·simp only [Act.put, sa_, sb_, sc_, i64_w, i32_w]
         rfl
        refine take_ (i := 7) (N := some 24) (v := ?_) (a' := ?_) #[true, true, true, true, true, true, true, true, false, false] rfl rfl (take_ofW HT_.out HW_.out (by kernel_rfl)) (fun _ _ _ h => h) (Or.inl ⟨by rfl, ?_⟩) hHeld ?_ ?_
        rotate_left
        ·rintro w' ⟨s0, s1, s2, s3, s4, s5⟩
         go_simp
         with_reducible rfl
        rotate_left
        ·simp only [Act.put, sa_, sb_, sc_, i64_w, i32_w]
         rfl
        refine one_ (i := 8) (N := some 25) #[true, true, true, true, true, true, true, true, true, false] rfl rfl (one_of HT_.out (by kernel_rfl)) (by decide) (fun K hK => ?_)
        refine goes_ Try.func127 (by kernel_rfl) rfl #[.agg #[.int .i64 ((zae l0 x5_1).f0), .int .i64 ((zae l0 x5_1).f1), .int .i64 ((zae l0 x5_1).f2)], .agg #[.int .i64 ((zae l1 x5_1).f0), .int .i64 ((zae l1 x5_1).f1), .int .i64 ((zae l1 x5_1).f2)]] (by rfl) rfl rfl (by (try simp only [List.map_toArray, List.map_cons, List.map_nil]); first | done | rfl | (simp only [List.length_drop, List.length_take]; rfl)) ?_
        with_reducible refine (laws_eqRegOp.calls ((zae l0 x5_1).f0) ((zae l0 x5_1).f1) ((zae l0 x5_1).f2) ((zae l1 x5_1).f0) ((zae l1 x5_1).f1) ((zae l1 x5_1).f2) false _ A7.out).mono ?_
        rintro e w12 ⟨rfl, hb⟩
        refine ⟨_, rfl, ?_⟩
        have n0_ := Aside0.mk (za8 bw_ hb)
        clear HB
        have HB := n0_
        clear n0_
        (try clear hb)
        (try clear hb2)
        (try clear hk)
        (try clear hi)
        refine hK.out _ _ ⟨((HB.out.cell (World.block_lt_of_cell? w _ hw303_0)).trans hw303_0), ((HB.out.cell (World.block_lt_of_cell? w _ hw303_1)).trans hw303_1), ((HB.out.cell (World.block_lt_of_cell? w _ hw303_2)).trans hw303_2), ((HB.out.cell (World.block_lt_of_cell? w _ hw304_0)).trans hw304_0), ((HB.out.cell (World.block_lt_of_cell? w _ hw304_1)).trans hw304_1), ((HB.out.cell (World.block_lt_of_cell? w _ hw304_2)).trans hw304_2)⟩ (fun hHeld => ?_)
        clear hK K
        refine norm_ (a' := ?_) ?_ ?_
        rotate_left
        ·show Act.put _ (some 25) _ = _
         simp only [Act.put, sa_, sb_, sc_, i64_w, i32_w]
         rfl
        refine pure_ (i := 9) (N := some 26) (v := ?_) (a' := ?_) #[true, true, true, true, true, true, true, true, true, true] rfl rfl (zaw HT_.out (by kernel_rfl)) (fun _ _ _ h => h) (Or.inl ⟨by rfl, ?_⟩) ?_ ?_
        rotate_left
        ·intro w'
         go_simp
         with_reducible rfl
        rotate_left
        ·simp only [Act.put, sa_, sb_, sc_, i64_w, i32_w]
         rfl
        refine done_ (done_of HT_.out (by kernel_rfl)) ?_
        try go_wp2
        go_ret
        exact ⟨by first | rfl | (simp [zab, zaa] <;> rfl) | (simp [*, zab, zaa] <;> rfl), bw_⟩
      ·rw [if_neg c6] at H
       exact absurd H (by simp)
     ·rw [if_neg c5] at H
      exact absurd H (by simp)
    ·rw [if_neg c4] at H
     have c4b0 : decide (x5_1 < (l0.length : Int)) = false := decide_eq_false c4
     clear c4
     obtain rfl := Option.some.inj H
     go_wp2
     go_ret
     exact ⟨by first | rfl | (simp [zab, zaa] <;> rfl) | (simp [*, zab, zaa] <;> rfl), bw_⟩
 ·rw [if_neg c3] at H
  have c3b0 : ((l0.length : Int) == (l1.length : Int)) = false := beq_eq_false_iff_ne.mpr c3
  have c3b1 : ((l0.length : Int) != (l1.length : Int)) = true := bne_iff_ne.mpr c3
  have c3b2 : (l0.length == l1.length) = false := by first | simpa using c3 | (simp at c3 ⊢; omega)
  obtain rfl := Option.some.inj H
  go_enter Try.func61, Try.ntmps61
  go_wp2
  go_ret
  exact ⟨by first | rfl | (simp [zab, zaa] <;> rfl) | (simp [*, zab, zaa] <;> rfl), bw_⟩

end Go.Proofs.Ytpdpomjgfmdjfaa.Z
