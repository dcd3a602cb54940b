-- Written by a program of this session (wip/tools/stubprint.py): contracts by hand where the kit's print has none.
import Derived.Test.YtpdpomjgfmdjfaaKFnExactSquaresPlanQ0
import Derived.Test.YtpdpomjgfmdjfaaKFnExactSquaresPlanQ1
import Derived.Test.YtpdpomjgfmdjfaaKFnExactSquaresPlanQ2
import Derived.Test.YtpdpomjgfmdjfaaKFnExactSquaresPlanQ3
namespace Go.Proofs.Ytpdpomjgfmdjfaa.Z
open Go.RowKit Go.Proofs.YtpdpomjgfmdjfaaW.PrintWords Go.Proofs.YtpdpomjgfmdjfaaW.PrintLast Go.Proofs.YtpdpomjgfmdjfaaW.PrintMore
attribute [local go_sem] max2_int min2_int max_two min_two max_three min_three max_four min_four   -- for this text's walks alone
set_option linter.unusedVariables false
set_option linter.unusedSimpArgs false

/-! ### impl_SquaresPlan: function 38 -/
theorem Fr.told {w0 ws w : World} {P0 : Nat → Prop} {L : List (Thing w0.heap.size)} {i j : Nat} {l r2 : List S117} {o r3 : List Int} {n r1 : Int} {r4 : Bool} {vs vo : Value} (k : Nat) (h : Fr w0 ws P0 L w) (hij : i ≠ j) (hi : L[i]? = some (row k117 117 vs l)) (hj : L[j]? = some (row (Kd.int .i64) 3 vo o)) (hf : impl_told.f k n l o = some (r1, r2, r3, r4)) :
    Calls Try.prog 92 #[.agg #[.int .i64 n, vs, vo]] w fun e w' => ∃ A1 c1 A2 c2, e = .returned (.tuple #[.agg #[.int .i64 r1, .slice A1 r2.length c1, .slice A2 r3.length c2], .bool r4]) ∧ Fr w0 ws P0 ((L.set j gone).set i (pair2 k117 117 (.slice A1 r2.length c1) r2 (Kd.int .i64) 3 (.slice A2 r3.length c2) r3)) w' := by
  obtain ⟨F, F', h1, h2, _, _, h3⟩ := h.focus2 hij hi hj
  have hb0 := h.bel
  refine (impl_told.calls k n F vs l F' vo o r1 r2 r3 r4 w0 w hb0 h1 h2 hf).mono ?_
  rintro e w' ⟨v1, v2, rfl, g1, g2, hb, hk⟩
  obtain ⟨A1, c1, rfl⟩ := Kd.zax g1
  obtain ⟨A2, c2, rfl⟩ := Kd.zax g2
  exact ⟨A1, c1, A2, c2, rfl, h3 w' _ ⟨hb.os.trans hb0.os.symm, hb.tape.trans hb0.tape.symm, hb.output.trans hb0.output.symm, hk.1, fun i hi => (hb.block i hi).trans (hb0.block i hi).symm⟩ hk ⟨g1, g2⟩⟩
theorem bits_and1 (y : Int) (h0 : 0 ≤ y) (h1 : y ≤ 1000000) : bits .and .i64 y 1 = y % 2 := by
  obtain ⟨a, rfl⟩ := Int.eq_ofNat_of_zero_le h0
  have e1 : (BitVec.ofInt 64 (a : Int)).toNat = a := by
    rw [BitVec.ofInt_natCast, BitVec.toNat_ofNat]
    exact Nat.mod_eq_of_lt (by omega)
  show IntKind.i64.wrap ((BitVec.ofInt 64 (a : Int) &&& BitVec.ofInt 64 (1 : Int)).toNat : Int) = _
  rw [BitVec.toNat_and, e1, show (BitVec.ofInt 64 (1 : Int)).toNat = 1 from rfl, Nat.and_one_is_mod]
  simp only [IntKind.wrap, IntKind.bits, IntKind.signed]
  simp
  omega
def sqBad (n : Int) : Bool := !(decide (1 ≤ n) && decide (n ≤ 1000000))
theorem sqBad_pred (w : World) : PredI 85 #[] sqBad w := fun n x => by
  have h : impl_SquaresPlan_1.f x = some (sqBad x) := by
    unfold impl_SquaresPlan_1.f impl_isNumber.f impl_in.f sqBad
    by_cases h1 : 1 ≤ x <;> simp [h1]
  exact impl_SquaresPlan_1.calls x _ _ h
theorem sqBad_in {l0 : List Int} (h : l0.any sqBad = false) (j : Nat) (hj : j < l0.length) : 0 ≤ rd l0 (j : Int) ∧ rd l0 (j : Int) ≤ 1000000 := by
  have e : rd l0 (j : Int) = l0[j] := by simp [rd, List.getD_eq_getElem?_getD, hj]
  rw [e]
  have := List.any_eq_false.1 h l0[j] (List.getElem_mem hj)
  simp [sqBad] at this
  omega
/-- The squares' steps, and their values. -/
def sqSteps (k : Nat) : List S117 := (List.range k).map fun (i : Nat) => (⟨(i : Int), (i : Int)⟩ : S117)
def sqVals (k : Nat) : List Int := (List.range (k + 1)).map fun (i : Nat) => (i : Int)
theorem sqSteps_succ (k : Nat) : sqSteps (k + 1) = sqSteps k ++ [⟨mn (k : Int) k, mx (k : Int) k⟩] := by
  unfold sqSteps
  rw [List.range_succ, List.map_append]
  simp [mn, mx]
theorem sqVals_succ (k : Nat) : sqVals (k + 1) = sqVals k ++ [1 + (k : Int)] := by
  unfold sqVals
  rw [List.range_succ, List.map_append]
  simp
  omega
theorem sqSteps_length (k : Nat) : (sqSteps k).length = k := by simp [sqSteps]
theorem sqVals_length (k : Nat) : (sqVals k).length = k + 1 := by simp [sqVals]
theorem rd_sqVals (k j : Nat) (h : j ≤ k) : rd (sqVals k) (j : Int) = (j : Int) := by
  unfold rd sqVals
  rw [Int.toNat_natCast, List.getD_eq_getElem?_getD, List.getElem?_map, List.getElem?_range (by omega)]
  rfl
/-- The products of one target's digits, and those of all targets. -/
def sqIn (x : Int) : Nat → Nat → Int → List S117 → Int × List S117
  | 0, _, at_, l => (at_, l)
  | d + 1, i, at_, l => if x / 2 ^ i % 2 = 1 then sqIn x d (i + 1) (timesV 1 l at_ i) (timesL l at_ i) else sqIn x d (i + 1) at_ l
def sqOuts (K : Nat) (l0 : List Int) : Nat → Nat → List Int → List S117 → List Int × List S117
  | 0, _, o, l => (o, l)
  | d + 1, j, o, l => sqOuts K l0 d (j + 1) (o ++ [(sqIn (rd l0 (j : Int)) (K + 1) 0 (-1) l).1]) (sqIn (rd l0 (j : Int)) (K + 1) 0 (-1) l).2
theorem timesL_len (l : List S117) (a b : Int) : (timesL l a b).length ≤ l.length + 1 := by
  unfold timesL
  split <;> simp
theorem sqIn_len (x : Int) (d : Nat) : ∀ i at_ l, (sqIn x d i at_ l).2.length ≤ l.length + d := by
  induction d with
  | zero => intro i at_ l; simp [sqIn]
  | succ d ih =>
    intro i at_ l
    unfold sqIn
    split
    · have := ih (i + 1) (timesV 1 l at_ i) (timesL l at_ i)
      have := timesL_len l at_ i
      omega
    · have := ih (i + 1) at_ l
      omega
def impl_SquaresPlan.f (k : Nat) (l0 : List Int) : Option (Int × List S117 × List Int × Bool) :=
  if (decide (1 ≤ (l0.length : Int)) && decide ((l0.length : Int) ≤ 6) && !(l0.any sqBad)) = true then
    (slices_Max_int_int.f l0).bind fun m => (bits_Len.f m).bind fun b => impl_told.f k 1 (sqOuts (b.toNat - 1) l0 l0.length 0 [] (sqSteps (b.toNat - 1))).2 (sqOuts (b.toNat - 1) l0 l0.length 0 [] (sqSteps (b.toNat - 1))).1
  else some (0, [], [], false)
theorem impl_SquaresPlan.mono : ∀ a0 k, LeO (impl_SquaresPlan.f k a0) (impl_SquaresPlan.f (k + 1) a0) := by
  intro a0 k
  unfold impl_SquaresPlan.f
  exact LeO.ite (LeO.bind (LeO.refl _) (fun m => LeO.bind (LeO.refl _) (fun b => impl_told.mono _ _ _ _))) (LeO.refl _)
set_option maxHeartbeats 8000000 in
set_option maxRecDepth 100000 in
theorem impl_SquaresPlan.badN (k : Nat) (A0 : Option Addr) (c0 : Nat) (l0 : List Int) (r1 : Int) (r2 : List S117) (r3 : List Int) (r4 : Bool) (w : World) (hr0 : Kd.C (Kd.int .i64) w A0 l0.length l0) (hc0 : l0.length ≤ c0) (hn : (decide (1 ≤ (l0.length : Int)) && decide ((l0.length : Int) ≤ 6)) = false) (h1 : r1 = 0) (h2 : r2 = []) (h3 : r3 = []) (h4 : r4 = false) :
    Calls Try.prog 38 #[.slice A0 l0.length c0] w fun e w' => ∃ v1_ v2_ : Value, e = .returned (.tuple #[.agg #[.int .i64 r1, v1_, v2_], .bool r4]) ∧ Kd.R k117 117 w' w.heap.size (fun _ => True) v1_ r2 ∧ Kd.R (Kd.int .i64) 3 w' w.heap.size (fun _ => True) v2_ r3 ∧ Below w.heap.size w w' := by
  have hu := Try.underlying36
  have HC := Aside0.mk hr0
  have HN := Aside0.mk hc0
  subst h1 h2 h3 h4
  have HI := Aside0.mk (show impl_in.f (l0.length : Int) 1 6 = some (decide (1 ≤ (l0.length : Int)) && decide ((l0.length : Int) ≤ 6)) by
    unfold impl_in.f
    by_cases h1 : 1 ≤ (l0.length : Int) <;> simp [h1])
  have HCF := Aside0.mk (fun (w1 : World) (hb : Below w.heap.size w w1) => containsFunc_calls 85 #[] sqBad (entersAt Try.func85 (by kernel_rfl) rfl) A0 c0 l0 w1 (Kd.zav hr0 hb) (sqBad_pred w1))
  rw [hn] at HI
  clear hr0 hc0 hn HCF
  go_enter Try.func38, Try.ntmps38
  go_wp2_with (first | ((with_reducible refine zaq (N := 2) rfl ?_); refine zan ?hg (N := 2) ?hd (cs := #[.int .i64 0, .slice none 0 0, .slice none 0 0]) (t := 36) ?hr ?_; (case hd => rfl); (case hg => rfl); (case hr => first | (go_simp; done) | (go_simp; rfl)); intro g2 hg_ w1 hbox_ hb_; have H0 := Aside0.mk ((Fr.start w).box_new hbox_ hb_ hg_); clear hbox_ hb_ hg_) | (go_at_call 83; refine (impl_in.calls _ _ _ false _ HI.out).mono ?_; rintro e w9 ⟨rfl, hd_⟩; have H1 := Aside0.mk (H0.out.drawn hd_); clear hd_; have hsg2_0 : w9.cell? ⟨g2, 0, none⟩ = some (.int .i64 0) := (H1.out).zam (i := 0) rfl 0 rfl; have hfg2_0 := za4 ((H1.out).box_at (i := 0) rfl) 0; have hsg2_1 : w9.cell? ⟨g2, 1, none⟩ = some (.slice none 0 0) := (H1.out).zam (i := 0) rfl 1 rfl; have hfg2_1 := za4 ((H1.out).box_at (i := 0) rfl) 1; have hsg2_2 : w9.cell? ⟨g2, 2, none⟩ = some (.slice none 0 0) := (H1.out).zam (i := 0) rfl 2 rfl; have hfg2_2 := za4 ((H1.out).box_at (i := 0) rfl) 2))
  have h4 := ((H1.out.box_set (i := 0) rfl 0 (.int .i64 0) rfl).box_set (i := 0) rfl 1 (.slice none 0 0) rfl).box_set (i := 0) rfl 2 (.slice none 0 0) rfl
  simp only [List.set_cons_zero] at h4
  refine bodyPost_ret (results_ct rfl _ _ g2 36 #[.int .i64 0, .slice none 0 0, .slice none 0 0] (0, 0) _ rfl (h4.box_at (i := 0) rfl) Try.underlying36 rfl (by kernel_rfl)) rfl ?_
  exact ⟨_, _, rfl, Kd.R_nil _ _ _ _ _, Kd.R_nil _ _ _ _ _, h4.bel⟩
set_option maxHeartbeats 8000000 in
set_option maxRecDepth 100000 in
theorem impl_SquaresPlan.badX (k : Nat) (A0 : Option Addr) (c0 : Nat) (l0 : List Int) (r1 : Int) (r2 : List S117) (r3 : List Int) (r4 : Bool) (w : World) (hr0 : Kd.C (Kd.int .i64) w A0 l0.length l0) (hc0 : l0.length ≤ c0) (hn : (decide (1 ≤ (l0.length : Int)) && decide ((l0.length : Int) ≤ 6)) = true) (hx : l0.any sqBad = true) (h1 : r1 = 0) (h2 : r2 = []) (h3 : r3 = []) (h4 : r4 = false) :
    Calls Try.prog 38 #[.slice A0 l0.length c0] w fun e w' => ∃ v1_ v2_ : Value, e = .returned (.tuple #[.agg #[.int .i64 r1, v1_, v2_], .bool r4]) ∧ Kd.R k117 117 w' w.heap.size (fun _ => True) v1_ r2 ∧ Kd.R (Kd.int .i64) 3 w' w.heap.size (fun _ => True) v2_ r3 ∧ Below w.heap.size w w' := by
  have hu := Try.underlying36
  have HC := Aside0.mk hr0
  have HN := Aside0.mk hc0
  subst h1 h2 h3 h4
  have HI := Aside0.mk (show impl_in.f (l0.length : Int) 1 6 = some (decide (1 ≤ (l0.length : Int)) && decide ((l0.length : Int) ≤ 6)) by
    unfold impl_in.f
    by_cases h1 : 1 ≤ (l0.length : Int) <;> simp [h1])
  have HCF := Aside0.mk (fun (w1 : World) (hb : Below w.heap.size w w1) => containsFunc_calls 85 #[] sqBad (entersAt Try.func85 (by kernel_rfl) rfl) A0 c0 l0 w1 (Kd.zav hr0 hb) (sqBad_pred w1))
  rw [hn] at HI
  rw [hx] at HCF
  clear hr0 hc0 hn hx
  go_enter Try.func38, Try.ntmps38
  go_wp2_with (first | ((with_reducible refine zaq (N := 2) rfl ?_); refine zan ?hg (N := 2) ?hd (cs := #[.int .i64 0, .slice none 0 0, .slice none 0 0]) (t := 36) ?hr ?_; (case hd => rfl); (case hg => rfl); (case hr => first | (go_simp; done) | (go_simp; rfl)); intro g2 hg_ w1 hbox_ hb_; have H0 := Aside0.mk ((Fr.start w).box_new hbox_ hb_ hg_); clear hbox_ hb_ hg_) | (go_at_call 83; refine (impl_in.calls _ _ _ true _ HI.out).mono ?_; rintro e w9 ⟨rfl, hd_⟩; have H1 := Aside0.mk (H0.out.drawn hd_); clear hd_) | (go_at_call 84; refine (HCF.out _ H1.out.bel).mono ?_; rintro e w2 ⟨rfl, hd_⟩; have H2 := Aside0.mk (H1.out.drawn hd_); clear hd_; have hsg2_0 : w2.cell? ⟨g2, 0, none⟩ = some (.int .i64 0) := (H2.out).zam (i := 0) rfl 0 rfl; have hfg2_0 := za4 ((H2.out).box_at (i := 0) rfl) 0; have hsg2_1 : w2.cell? ⟨g2, 1, none⟩ = some (.slice none 0 0) := (H2.out).zam (i := 0) rfl 1 rfl; have hfg2_1 := za4 ((H2.out).box_at (i := 0) rfl) 1; have hsg2_2 : w2.cell? ⟨g2, 2, none⟩ = some (.slice none 0 0) := (H2.out).zam (i := 0) rfl 2 rfl; have hfg2_2 := za4 ((H2.out).box_at (i := 0) rfl) 2))
  have h4 := ((H2.out.box_set (i := 0) rfl 0 (.int .i64 0) rfl).box_set (i := 0) rfl 1 (.slice none 0 0) rfl).box_set (i := 0) rfl 2 (.slice none 0 0) rfl
  simp only [List.set_cons_zero] at h4
  refine bodyPost_ret (results_ct rfl _ _ g2 36 #[.int .i64 0, .slice none 0 0, .slice none 0 0] (0, 0) _ rfl (h4.box_at (i := 0) rfl) Try.underlying36 rfl (by kernel_rfl)) rfl ?_
  exact ⟨_, _, rfl, Kd.R_nil _ _ _ _ _, Kd.R_nil _ _ _ _ _, h4.bel⟩
set_option maxHeartbeats 8000000 in
set_option maxRecDepth 100000 in
theorem impl_SquaresPlan.good (k : Nat) (A0 : Option Addr) (c0 : Nat) (l0 : List Int) (r1 : Int) (r2 : List S117) (r3 : List Int) (r4 : Bool) (w : World) (hr0 : Kd.C (Kd.int .i64) w A0 l0.length l0) (hc0 : l0.length ≤ c0) (hn : (decide (1 ≤ (l0.length : Int)) && decide ((l0.length : Int) ≤ 6)) = true) (hx : l0.any sqBad = false) (m b : Int) (hm : slices_Max_int_int.f l0 = some m) (hb : bits_Len.f m = some b) (K : Nat) (hK : b.toNat - 1 = K) (ht : impl_told.f k 1 (sqOuts K l0 l0.length 0 [] (sqSteps K)).2 (sqOuts K l0 l0.length 0 [] (sqSteps K)).1 = some (r1, r2, r3, r4)) :
    Calls Try.prog 38 #[.slice A0 l0.length c0] w fun e w' => ∃ v1_ v2_ : Value, e = .returned (.tuple #[.agg #[.int .i64 r1, v1_, v2_], .bool r4]) ∧ Kd.R k117 117 w' w.heap.size (fun _ => True) v1_ r2 ∧ Kd.R (Kd.int .i64) 3 w' w.heap.size (fun _ => True) v2_ r3 ∧ Below w.heap.size w w' := by
  have hu := Try.underlying36
  have HC := Aside0.mk hr0
  have HN := Aside0.mk hc0
  have HI := Aside0.mk (show impl_in.f (l0.length : Int) 1 6 = some (decide (1 ≤ (l0.length : Int)) && decide ((l0.length : Int) ≤ 6)) by
    unfold impl_in.f
    by_cases h1 : 1 ≤ (l0.length : Int) <;> simp [h1])
  have HCF := Aside0.mk (fun (w1 : World) (hb : Below w.heap.size w w1) => containsFunc_calls 85 #[] sqBad (entersAt Try.func85 (by kernel_rfl) rfl) A0 c0 l0 w1 (Kd.zav hr0 hb) (sqBad_pred w1))
  rw [hn] at HI
  rw [hx] at HCF
  have HMX := Aside0.mk hm
  have HLN := Aside0.mk hb
  have HTO := Aside0.mk ht
  obtain ⟨hm0, hm1, hb0, hb1⟩ : 0 ≤ m ∧ m ≤ 16777215 ∧ b.toNat - 1 = K ∧ K ≤ 24 := by
    unfold bits_Len.f bits_Len64.f at hb
    split at hb
    · rename_i hc
      obtain rfl := Option.some.inj hb
      have := Lib.bitLen_le m.toNat 24 (by omega)
      exact ⟨hc.1, hc.2, hK, by omega⟩
    · cases hb
  have HK := Aside0.mk (And.intro hb0 hb1)
  have HL6 := Aside0.mk (show l0.length ≤ 6 by
    simp only [Bool.and_eq_true, decide_eq_true_eq] at hn
    omega)
  have hx0 := Aside0.mk hx
  have hwm : IntKind.wrap .u64 m = m := by simp only [IntKind.wrap, IntKind.bits, IntKind.signed]; simp; omega
  clear hr0 hc0 hn hx ht hm hb hb0 hb1 hK
  go_enter Try.func38, Try.ntmps38
  go_wp2_with (first | ((with_reducible refine zaq (N := 2) rfl ?_); refine zan ?hg (N := 2) ?hd (cs := #[.int .i64 0, .slice none 0 0, .slice none 0 0]) (t := 36) ?hr ?_; (case hd => rfl); (case hg => rfl); (case hr => first | (go_simp; done) | (go_simp; rfl)); intro g2 hg_ w1 hbox_ hb_; have H0 := Aside0.mk ((Fr.start w).box_new hbox_ hb_ hg_); clear hbox_ hb_ hg_) | (go_at_call 83; refine (impl_in.calls _ _ _ true _ HI.out).mono ?_; rintro e w9 ⟨rfl, hd_⟩; have H1 := Aside0.mk (H0.out.drawn hd_); clear hd_) | (go_at_call 84; refine (HCF.out _ H1.out.bel).mono ?_; rintro e w2 ⟨rfl, hd_⟩; have H2 := Aside0.mk (H1.out.drawn hd_); clear hd_) | (go_at_call 87; refine (newMaker_fr 1 H2.out).mono ?_; rintro e w3 ⟨g, rfl, k_⟩; have H3 := Aside0.mk k_; clear k_) | ((with_reducible refine zaq (N := 23) rfl ?_); refine Kd.R_lit (Kd.int .i64) (w0 := w) w.heap.size 3 ?hg (N := 23) ?hd (xs := [(0 : Int)]) (inner := [.int .i64 0]) (ok := fun k => w3.heap.size ≤ k) (okp := fun k => w3.heap.size ≤ k) ?hr ?hp (fun _ hk => hk) (Nat.le_refl _) (H3.out).bel (H3.out).size (by simp) ?_; (case hd => rfl); (case hg => rfl); (case hr => first | (go_simp; done) | (go_simp; rfl)); (case hp => exact (Reps.one (show Kd.M (Kd.int .i64) _ _ _ (0) [.int .i64 (0)] from rfl) (Reps.none _ _))); intro v23 w4 hr_ hb_ hg_ hn_; have H4 := Aside0.mk ((H3.out).row_lit hr_ hg_); clear hb_ hg_ hn_; clear hr_) | ((with_reducible refine zaq (N := 24) rfl ?_); refine Kd.R_lit (Kd.int .i64) (w0 := w) w.heap.size 3 ?hg (N := 24) ?hd (xs := ([] : List Int)) (inner := []) (ok := fun k => w4.heap.size ≤ k) (okp := fun k => w4.heap.size ≤ k) ?hr ?hp (fun _ hk => hk) (Nat.le_refl _) (H4.out).bel (H4.out).size (by simp) ?_; (case hd => rfl); (case hg => rfl); (case hr => first | (go_simp; done) | (go_simp; rfl)); (case hp => exact (Reps.none _ _)); intro v24 w5 hr_ hb_ hg_ hn_; have H5 := Aside0.mk ((H4.out).row_lit hr_ hg_); clear hb_ hg_ hn_; clear hr_))
  obtain ⟨A24, c24, rfl, hc24, _⟩ := H5.out.row_reads (i := 0) rfl
  have HC24 := Aside0.mk hc24
  clear hc24 H4 H3 H2 H1 H0 HI HCF
  go_loopg [5] K (fun d v5 w' => ∃ (i : Nat), Aside0 (i + d = K) ∧ Aside0 (Fr w w (fun _ => False) [row (Kd.int .i64) 3 (.slice A24 ([] : List Int).length c24) ([]), row (Kd.int .i64) 3 v5 (sqVals i), mkr g 1 (.slice none 0 0) (sqSteps i), box g2 36 #[.int .i64 0, .slice none 0 0, .slice none 0 0]] w'))
  case atStart => exact ⟨0, ⟨by omega⟩, ⟨H5.out⟩⟩
  case round =>
    obtain ⟨i, HI1, HL⟩ := hrel
    clear H5
    obtain ⟨A5, c5, rfl, hc5, hC5⟩ := HL.out.row_reads (i := 1) rfl
    obtain ⟨n5, hn5⟩ : ∃ n, (sqVals i).length = n := ⟨_, rfl⟩
    have hn5' : n5 = i + 1 := by rw [← hn5, sqVals_length]
    rw [hn5] at HL hc5 ⊢
    have hi1 := HI1.out
    have hk := HK.out
    obtain ⟨ad, e1, _⟩ := Kd.at_int hC5 (i : Int) (by omega) (by omega)
    cases e1
    clear hC5
    cases gk with
    | succ d =>
      have c1 : decide ((n5 : Int) < b) = true := decide_eq_true (by omega)
      have hw1 : wrap64 ((n5 : Int) - 1) = (i : Int) := by unfold wrap64; omega
      have q1 : (i < n5) = True := eq_true (by omega)
      have q2 : ((i : Int) < (n5 : Int)) = True := eq_true (by omega)
      have HQ := Aside0.mk (show (sqVals i).length = n5 ∧ n5 = i + 1 ∧ n5 ≤ c5 ∧ i < K ∧ K ≤ 24 ∧ i + (d + 1) = K from ⟨hn5, hn5', hc5, by omega, hk.2, hi1⟩)
      have HMU := Aside0.mk (fun (w8 : World) (h8 : Fr w w (fun _ => False) [row (Kd.int .i64) 3 (.slice A24 ([] : List Int).length c24) ([]), row (Kd.int .i64) 3 (.slice (some ad) n5 c5) (sqVals i), mkr g 1 (.slice none 0 0) (sqSteps i), box g2 36 #[.int .i64 0, .slice none 0 0, .slice none 0 0]] w8) => multiply_fr (i := 2) (i : Int) (i : Int) h8 rfl (by omega) (by rw [sqSteps_length]; omega))
      rw [sqSteps_length] at HMU
      clear hi1 hk hn5 hn5' hc5 HI1
      go_wp2_with (first | (go_at_call 89; refine (slices_Max_int_int.calls A0 c0 l0 m _ (Kd.zav HC.out HL.out.bel) HN.out HMX.out).mono ?_; rintro e w6 ⟨rfl, hd_⟩; have H6 := Aside0.mk ((HL.out).drawn hd_); clear hd_) | (go_at_call 88; refine (bits_Len.calls m b _ HLN.out).mono ?_; rintro e w7 ⟨rfl, hd_⟩; have H7 := Aside0.mk (H6.out.drawn hd_); clear hd_; have hx7 : w7.cell? (ad.add i) = some (.int .i64 (i : Int)) := by have := H7.out.int_at (i := 1) rfl i (by have := HQ.out; omega); rwa [rd_sqVals i i (Nat.le_refl _)] at this) | (go_at_call 90; refine (HMU.out _ H7.out).mono ?_; clear HMU hx7; rintro e w8 ⟨rfl, k_⟩; have H8 := Aside0.mk k_; simp only [List.set_cons_zero, List.set_cons_succ] at H8; clear k_) | ((with_reducible refine gate_builtin (b := .append) (xs := #[.tmp 38, .tmp 43]) rfl ?_); at_builtin; obtain ⟨ok_, hR_, hF_, hX_⟩ := (H8.out).row_append (i := 1) rfl; refine Kd.R_append (Kd.int .i64) (w0 := w) w.heap.size (by rfl) (.tmp 38) (.tmp 43) 22 3 (.int .i64 0) 8 rfl Try.underlying22 info3 rfl (by decide) (by omega) (.slice (some ad) n5 c5) (sqVals i) (1 + (i : Int)) [.int .i64 (1 + (i : Int))] ok_ (fun _ => False) rfl (by first | rfl | (go_simp; done) | (go_simp; rfl)) ?aP (fun _ hk => hk.elim) ?aF ?aO ?aB ?aS ?aL ?_; (case aP => exact rfl); (case aB => exact (H8.out).bel); (case aF => exact hF_); (case aO => exact hR_); (case aS => exact (H8.out).size); (case aL => have := HQ.out; omega); intro v_ w9 ho_ hb_ hg_ ha_; have H9 := Aside0.mk (hX_ _ _ _ ho_ hg_); obtain ⟨A_, c_, rfl⟩ := Kd.zax ho_; simp only [List.set_cons_zero, List.set_cons_succ] at H9; clear ho_ hb_ hg_ ha_ hR_ hF_ hX_))
      go_roundg d
      case measure => omega
      case rel => exact ⟨i + 1, ⟨by have := HQ.out; omega⟩, ⟨by rw [sqVals_succ, sqSteps_succ]; have e := H9.out; rw [List.length_append] at e; exact e⟩⟩
    | zero =>
      have c1 : decide ((n5 : Int) < b) = false := decide_eq_false (by omega)
      have hiK : K = i := by omega
      subst hiK
      have HQ := Aside0.mk (show (sqVals K).length = n5 ∧ n5 = K + 1 ∧ n5 ≤ c5 ∧ K ≤ 24 ∧ l0.length ≤ 6 from ⟨hn5, hn5', hc5, hk.2, HL6.out⟩)
      clear hi1 HI1 hk hn5 hn5' hc5
      go_wp2_with (first | (go_at_call 89; refine (slices_Max_int_int.calls A0 c0 l0 m _ (Kd.zav HC.out HL.out.bel) HN.out HMX.out).mono ?_; rintro e w6 ⟨rfl, hd_⟩; have H6 := Aside0.mk ((HL.out).drawn hd_); clear hd_) | (go_at_call 88; refine (bits_Len.calls m b _ HLN.out).mono ?_; rintro e w7 ⟨rfl, hd_⟩; have H7 := Aside0.mk (H6.out.drawn hd_); clear hd_))
      clear c1 H6 HL
      go_loopg [6, 47] l0.length (fun d v6 v47 w' => ∃ (j : Nat) (o : List Int) (l : List S117), v47 = .int .i64 j ∧ Aside0 (j + d = l0.length ∧ l.length ≤ 24 + 30 * j ∧ o.length = j) ∧ Aside0 (sqOuts K l0 d j o l = sqOuts K l0 l0.length 0 [] (sqSteps K)) ∧ Aside0 (Fr w w (fun _ => False) [row (Kd.int .i64) 3 v6 (o), row (Kd.int .i64) 3 (.slice (some ad) n5 c5) (sqVals K), mkr g 1 (.slice none 0 0) (l), box g2 36 #[.int .i64 0, .slice none 0 0, .slice none 0 0]] w'))
      case atStart => exact ⟨0, [], sqSteps K, rfl, ⟨by omega, by rw [sqSteps_length]; have := HQ.out; omega, rfl⟩, ⟨rfl⟩, ⟨H7.out⟩⟩
      case round =>
        obtain ⟨j, o, l, rfl, HJ, HE, HL⟩ := hrel
        clear H7
        obtain ⟨A6, c6, rfl, hc6, hC6⟩ := HL.out.row_reads (i := 0) rfl
        clear hC6
        cases gk with
        | zero =>
          have hj := HJ.out
          have c1 : decide (j < l0.length) = false := decide_eq_false (by omega)
          have he := HE.out
          simp only [sqOuts] at he
          have HT2 := HTO.out
          rw [← he] at HT2
          have HT3 := Aside0.mk (show impl_told.f k 1 l o = some (r1, r2, r3, r4) from HT2)
          clear HT2 HTO he hj HE HJ hc6
          go_wp2_with (first | (go_at_call 93; refine (plan_fr (i := 2) (.slice A6 o.length c6) rfl rfl HL.out rfl).mono ?_; rintro e w8 ⟨v8, rfl, k_⟩; have H8 := Aside0.mk k_; simp only [List.set_cons_zero, List.set_cons_succ] at H8; clear k_) | (go_at_call 92; refine (Fr.told (i := 0) (j := 1) k H8.out (by decide) rfl rfl HT3.out).mono ?_; rintro e w9 ⟨A1_, c1_, A2_, c2_, rfl, k_⟩; have H9 := Aside0.mk k_; simp only [List.set_cons_zero, List.set_cons_succ] at H9; clear k_; have hsg2_0 : w9.cell? ⟨g2, 0, none⟩ = some (.int .i64 0) := (H9.out).zam (i := 4) rfl 0 rfl; have hfg2_0 := za4 ((H9.out).box_at (i := 4) rfl) 0; have hsg2_1 : w9.cell? ⟨g2, 1, none⟩ = some (.slice none 0 0) := (H9.out).zam (i := 4) rfl 1 rfl; have hfg2_1 := za4 ((H9.out).box_at (i := 4) rfl) 1; have hsg2_2 : w9.cell? ⟨g2, 2, none⟩ = some (.slice none 0 0) := (H9.out).zam (i := 4) rfl 2 rfl; have hfg2_2 := za4 ((H9.out).box_at (i := 4) rfl) 2))
          have h4 := ((H9.out.box_set (i := 4) rfl 0 (.int .i64 r1) rfl).box_set (i := 4) rfl 1 (.slice A1_ r2.length c1_) rfl).box_set (i := 4) rfl 2 (.slice A2_ r3.length c2_) rfl
          simp only [List.set_cons_zero, List.set_cons_succ] at h4
          refine bodyPost_ret (results_ct rfl _ _ g2 36 #[.int .i64 r1, .slice A1_ r2.length c1_, .slice A2_ r3.length c2_] (0, 0) _ rfl (h4.box_at (i := 4) rfl) Try.underlying36 rfl (by kernel_rfl)) rfl ?_
          obtain ⟨F_, f1_, f2_⟩ := h4.pair_R (i := 0) rfl
          exact ⟨_, _, rfl, Kd.zak f1_ (fun _ _ => trivial), Kd.zak f2_ (fun _ _ => trivial), h4.bel⟩
        | succ d =>
          have hj := HJ.out
          have hlt : j < l0.length := by omega
          have c1 : decide (j < l0.length) = true := decide_eq_true hlt
          obtain ⟨ad2, e1, hx⟩ := Kd.at_int (Kd.zav HC.out HL.out.bel) (j : Int) (by omega) (by omega)
          cases e1
          rw [Int.toNat_natCast] at hx
          have hw1 : wrap64 ((j : Int) + 1) = (j : Int) + 1 := by have := HL6.out; unfold wrap64; omega
          have HW1 := Aside0.mk hw1
          have HE2 := Aside0.mk (show sqOuts K l0 d (j + 1) (o ++ [(sqIn (rd l0 (j : Int)) (K + 1) 0 (-1) l).1]) (sqIn (rd l0 (j : Int)) (K + 1) 0 (-1) l).2 = sqOuts K l0 l0.length 0 [] (sqSteps K) from HE.out)
          have HLB := Aside0.mk (sqIn_len (rd l0 (j : Int)) (K + 1) 0 (-1) l)
          have HX0 := Aside0.mk (show 0 ≤ rd l0 (j : Int) ∧ rd l0 (j : Int) ≤ 1000000 from sqBad_in hx0.out j hlt)
          clear hw1 hj HE
          generalize rd l0 (j : Int) = x at *
          go_wp2_with fail
          go_loopg [10, 53] (K + 1) (fun d2 v10 v53 w' => ∃ (i : Nat) (at_ : Int) (l2 : List S117), v53 = .int .i64 i ∧ v10 = .int .i64 at_ ∧ Aside0 (i + d2 = K + 1 ∧ l2.length + d2 ≤ l.length + K + 1) ∧ Aside0 (sqIn x d2 i at_ l2 = sqIn x (K + 1) 0 (-1) l) ∧ Aside0 (Fr w w (fun _ => False) [row (Kd.int .i64) 3 (.slice A6 o.length c6) (o), row (Kd.int .i64) 3 (.slice (some ad) n5 c5) (sqVals K), mkr g 1 (.slice none 0 0) (l2), box g2 36 #[.int .i64 0, .slice none 0 0, .slice none 0 0]] w'))
          case atStart => exact ⟨0, -1, l, rfl, rfl, ⟨by omega, by omega⟩, ⟨rfl⟩, HL⟩
          case round =>
            obtain ⟨i, at_, l2, rfl, rfl, HI, HE3, HL3⟩ := hrel
            clear HL hx
            cases gk with
            | zero =>
              have hi := HI.out
              have hq := HQ.out
              have c2 : decide (i < n5) = false := decide_eq_false (by omega)
              have he : (at_, l2) = sqIn x (K + 1) 0 (-1) l := HE3.out
              rw [← he] at HE2 HLB
              clear hi hq HE3 he
              have hw1 := HW1.out
              go_wp2_with ((with_reducible refine gate_builtin (b := .append) (xs := #[.tmp 68, .tmp 70]) rfl ?_); at_builtin; obtain ⟨ok_, hR_, hF_, hX_⟩ := (HL3.out).row_append (i := 0) rfl; refine Kd.R_append (Kd.int .i64) (w0 := w) w.heap.size (by rfl) (.tmp 68) (.tmp 70) 22 3 (.int .i64 0) 8 rfl Try.underlying22 info3 rfl (by decide) (by omega) (.slice A6 o.length c6) o at_ [.int .i64 at_] ok_ (fun _ => False) rfl (by first | rfl | (go_simp; done) | (go_simp; rfl)) ?aP (fun _ hk => hk.elim) ?aF ?aO ?aB ?aS ?aL ?_; (case aP => exact rfl); (case aB => exact (HL3.out).bel); (case aF => exact hF_); (case aO => exact hR_); (case aS => exact (HL3.out).size); (case aL => have := HJ.out; have := HQ.out; omega); intro v_ w9 ho_ hb_ hg_ ha_; have H9 := Aside0.mk (hX_ _ _ _ ho_ hg_); obtain ⟨A_, c_, rfl⟩ := Kd.zax ho_; simp only [List.set_cons_zero, List.set_cons_succ] at H9; clear ho_ hb_ hg_ ha_ hR_ hF_ hX_)
              go_roundg d
              case measure => omega
              case rel => exact ⟨j + 1, o ++ [at_], l2, by go_num, ⟨by have := HJ.out; omega, by have := HLB.out; have := HJ.out; have := HQ.out; omega, by have := HJ.out; rw [List.length_append]; show o.length + 1 = _; omega⟩, HE2, by have e := H9.out; rw [List.length_append] at e; exact ⟨e⟩⟩
            | succ d2 =>
              have hi := HI.out
              have hq := HQ.out
              have c2 : decide (i < n5) = true := decide_eq_true (by omega)
              have q1 : (i < n5) = True := eq_true (by omega)
              have hx : wr.cell? (ad.add i) = some (.int .i64 (i : Int)) := by
                have := HL3.out.int_at (i := 1) rfl i (by omega)
                rwa [rd_sqVals K i (by omega)] at this
              have HIQ := Aside0.mk (show i + (d2 + 1) = K + 1 ∧ l2.length + (d2 + 1) ≤ l.length + K + 1 ∧ K ≤ 24 ∧ l.length ≤ 24 + 30 * j ∧ j < 6 by have := HJ.out; have := HL6.out; omega)
              have HTM := Aside0.mk (times_fr (i := 2) at_ (i : Int) HL3.out rfl (by omega) (by have := HIQ.out; omega))
              have hi64 : min i 64 = i := Nat.min_eq_left (by omega)
              have hw2 : wrap64 ((i : Int) + 1) = (i : Int) + 1 := by unfold wrap64; omega
              have hsz1 : sqIn x (d2 + 1) i at_ l2 = if x / 2 ^ i % 2 = 1 then sqIn x d2 (i + 1) (timesV 1 l2 at_ i) (timesL l2 at_ i) else sqIn x d2 (i + 1) at_ l2 := rfl
              obtain ⟨y, hy⟩ : ∃ y, x / 2 ^ i = y := ⟨_, rfl⟩
              have hy0 : 0 ≤ y ∧ y ≤ 1000000 := by
                have h1 := Int.ediv_nonneg HX0.out.1 (Int.le_of_lt (Int.pow_pos (n := 2) (m := i) (by omega)))
                have h2 := Int.ediv_le_self (2 ^ i) HX0.out.1
                have := HX0.out.2
                omega
              have hy1 : x / 2 ^ min i 64 = y := by rw [hi64]; exact hy
              have hb := bits_and1 y hy0.1 hy0.2
              by_cases hb1 : y % 2 = 1
              · rw [hb1] at hb
                have HE5 := Aside0.mk (show sqIn x d2 (i + 1) (timesV 1 l2 at_ i) (timesL l2 at_ i) = sqIn x (K + 1) 0 (-1) l by
                  rw [← HE3.out, hsz1, if_pos (by rw [hy]; exact hb1)])
                have HTL := Aside0.mk (timesL_len l2 at_ i)
                clear hsz1 hi64 hy hy0 hb1 hi hq HE3 HX0 HE2 HLB
                go_wp2_with (go_at_call 91; refine HTM.out.mono ?_; clear HTM; rintro e w8 ⟨rfl, k_⟩; have H8 := Aside0.mk k_; simp only [List.set_cons_zero, List.set_cons_succ] at H8; clear k_)
                go_roundg d2
                case measure => omega
                case rel => exact ⟨i + 1, _, _, by go_num, rfl, ⟨by have := HIQ.out; omega, by have := HIQ.out; have := HTL.out; omega⟩, HE5, H8⟩
              · have hb2 : y % 2 = 0 := by omega
                rw [hb2] at hb
                have HE5 := Aside0.mk (show sqIn x d2 (i + 1) at_ l2 = sqIn x (K + 1) 0 (-1) l by
                  rw [← HE3.out, hsz1, if_neg (by rw [hy]; exact hb1)])
                clear HTM hsz1 hi64 hy hy0 hb1 hb2 hi hq HE3 HX0 HE2 HLB
                go_wp2_with fail
                go_roundg d2
                case measure => omega
                case rel => exact ⟨i + 1, _, _, by go_num, rfl, ⟨by have := HIQ.out; omega, by have := HIQ.out; omega⟩, HE5, HL3⟩
theorem impl_SquaresPlan.calls (k : Nat) (A0 : Option Addr) (c0 : Nat) (l0 : List Int) (r1 : Int) (r2 : List S117) (r3 : List Int) (r4 : Bool) (w : World) (hr0 : Kd.C (Kd.int .i64) w A0 l0.length l0) (hc0 : l0.length ≤ c0) (h : impl_SquaresPlan.f k l0 = some (r1, r2, r3, r4)) :
    Calls Try.prog 38 #[.slice A0 l0.length c0] w fun e w' => ∃ v1_ v2_ : Value, e = .returned (.tuple #[.agg #[.int .i64 r1, v1_, v2_], .bool r4]) ∧ Kd.R k117 117 w' w.heap.size (fun _ => True) v1_ r2 ∧ Kd.R (Kd.int .i64) 3 w' w.heap.size (fun _ => True) v2_ r3 ∧ Below w.heap.size w w' := by
  unfold impl_SquaresPlan.f at h
  cases hn : decide (1 ≤ (l0.length : Int)) && decide ((l0.length : Int) ≤ 6) with
  | false =>
    simp only [hn, Bool.false_and, Bool.false_eq_true, if_false, Option.some.injEq, Prod.mk.injEq] at h
    exact impl_SquaresPlan.badN k A0 c0 l0 r1 r2 r3 r4 w hr0 hc0 hn h.1.symm h.2.1.symm h.2.2.1.symm h.2.2.2.symm
  | true =>
    cases hx : l0.any sqBad with
    | true =>
      simp only [hn, hx, Bool.not_true, Bool.and_false, Bool.false_eq_true, if_false, Option.some.injEq, Prod.mk.injEq] at h
      exact impl_SquaresPlan.badX k A0 c0 l0 r1 r2 r3 r4 w hr0 hc0 hn hx h.1.symm h.2.1.symm h.2.2.1.symm h.2.2.2.symm
    | false =>
      simp only [hn, hx, Bool.not_false, Bool.and_true, if_true] at h
      obtain ⟨m, hm, h⟩ := Option.bind_eq_some_iff.1 h
      obtain ⟨b, hb, h⟩ := Option.bind_eq_some_iff.1 h
      exact impl_SquaresPlan.good k A0 c0 l0 r1 r2 r3 r4 w hr0 hc0 hn hx m b hm hb _ rfl h

/-! ### laws_FnExactSquaresPlan: function 7 -/
mutual
def laws_FnExactSquaresPlan.j0 : Nat → List Int → Bool → List Int → Bool → Bool → Int → List (S117) → List Int → Int → List (S117) → List Int → Option (Bool)
  | 0, _, _, _, _, _, _, _, _, _, _, _ => none
  | k + 1, x0, x4, x5, x7, x37, x685000, x685001, x685002, x697000, x697001, x697002 => if x37 = true then (some false) else ((laws_toIntS.f k x0).bind fun t698 => ((laws_eqIntS.f k x5 t698).bind fun t701 => (if t701 = true then ((laws_markIntS.f k x5 1).bind fun bt702 => (if bt702.1 < 0 then (laws_FnExactSquaresPlan.j1 k x0 x4 true x685000 x685001 x685002 x697000 x697001 x697002) else ((laws_eqPlan.f k x697000 x697001 x697002 x685000 x685001 x685002).bind fun t704 => (if t704 = true then (laws_FnExactSquaresPlan.j1 k x0 x4 (x7 != x4) x685000 x685001 x685002 x697000 x697001 x697002) else (laws_FnExactSquaresPlan.j1 k x0 x4 true x685000 x685001 x685002 x697000 x697001 x697002))))) else (some false))))
def laws_FnExactSquaresPlan.j1 : Nat → List Int → Bool → Bool → Int → List (S117) → List Int → Int → List (S117) → List Int → Option (Bool)
  | 0, _, _, _, _, _, _, _, _, _ => none
  | k + 1, x0, x4, x58, x685000, x685001, x685002, x697000, x697001, x697002 => if x58 = true then (some false) else ((laws_markPlan.f k x697000 x697001 x697002 1).bind fun bt705 => ((laws_heldPlan.f k x697000 bt705.2.1 bt705.2.2 1).bind fun t708 => (if t708 < 0 then (some false) else (if t708 = bt705.1 then ((laws_toIntS.f k x0).bind fun t709 => ((impl_SquaresPlan.f k t709).bind fun bt712 => ((laws_eqPlan.f k bt712.1 bt712.2.1 bt712.2.2.1 x685000 x685001 x685002).bind fun t721 => (if t721 = true then (laws_FnExactSquaresPlan.j2 k bt705.1 (bt712.2.2.2 != x4) x697000 bt705.2.1 bt705.2.2) else (laws_FnExactSquaresPlan.j2 k bt705.1 true x697000 bt705.2.1 bt705.2.2))))) else (some false)))))
def laws_FnExactSquaresPlan.j2 : Nat → Int → Bool → Int → List (S117) → List Int → Option (Bool)
  | 0, _, _, _, _, _ => none
  | k + 1, x9, x84, x697000, x697001, x697002 => if x84 = true then (some false) else ((laws_heldPlan.f k x697000 x697001 x697002 1).bind fun t722 => (if t722 < 0 then (some false) else (if t722 = x9 then (some true) else (some false))))
end
def laws_FnExactSquaresPlan.f (k : Nat) (l0 : List Int) : Option (Bool) := if (l0.length : Int) > 1048576 then (some true) else ((laws_toIntS.f k l0).bind fun t673 => ((spec_SquaresPlan.f k t673).bind fun bt676 => ((laws_toIntS.f k l0).bind fun t685 => ((impl_SquaresPlan.f k t685).bind fun bt688 => ((laws_eqPlan.f k bt688.1 bt688.2.1 bt688.2.2.1 bt676.1 bt676.2.1 bt676.2.2.1).bind fun t697 => (if t697 = true then (laws_FnExactSquaresPlan.j0 k l0 bt676.2.2.2 t685 bt688.2.2.2 (bt688.2.2.2 != bt676.2.2.2) bt676.1 bt676.2.1 bt676.2.2.1 bt688.1 bt688.2.1 bt688.2.2.1) else (laws_FnExactSquaresPlan.j0 k l0 bt676.2.2.2 t685 bt688.2.2.2 true bt676.1 bt676.2.1 bt676.2.2.1 bt688.1 bt688.2.1 bt688.2.2.1)))))))
theorem laws_FnExactSquaresPlan.zb2 : ∀ k, (∀ y0 y1 y2 y3 y4 y5 y6 y7 y8 y9 y10, LeO (laws_FnExactSquaresPlan.j0 k y0 y1 y2 y3 y4 y5 y6 y7 y8 y9 y10) (laws_FnExactSquaresPlan.j0 (k + 1) y0 y1 y2 y3 y4 y5 y6 y7 y8 y9 y10)) ∧ (∀ y0 y1 y2 y3 y4 y5 y6 y7 y8, LeO (laws_FnExactSquaresPlan.j1 k y0 y1 y2 y3 y4 y5 y6 y7 y8) (laws_FnExactSquaresPlan.j1 (k + 1) y0 y1 y2 y3 y4 y5 y6 y7 y8)) ∧ (∀ y0 y1 y2 y3 y4, LeO (laws_FnExactSquaresPlan.j2 k y0 y1 y2 y3 y4) (laws_FnExactSquaresPlan.j2 (k + 1) y0 y1 y2 y3 y4))
  | 0 => ⟨fun _ _ _ _ _ _ _ _ _ _ _ r h => by simp [laws_FnExactSquaresPlan.j0] at h, fun _ _ _ _ _ _ _ _ _ r h => by simp [laws_FnExactSquaresPlan.j1] at h, fun _ _ _ _ _ r h => by simp [laws_FnExactSquaresPlan.j2] at h⟩
  | k + 1 => by
    obtain ⟨ih0, ih1, ih2⟩ := laws_FnExactSquaresPlan.zb2 k
    refine ⟨?_, ?_, ?_⟩
    · intro y0 y1 y2 y3 y4 y5 y6 y7 y8 y9 y10
      unfold laws_FnExactSquaresPlan.j0
      repeat' first
      | (with_reducible exact ih0 _ _ _ _ _ _ _ _ _ _ _)
      | (with_reducible exact ih1 _ _ _ _ _ _ _ _ _)
      | (with_reducible exact ih2 _ _ _ _ _)
      | (with_reducible exact impl_SquaresPlan.mono _ _)
      | (with_reducible exact laws_eqIntS.mono _ _ _)
      | (with_reducible exact laws_eqPlan.mono _ _ _ _ _ _ _)
      | (with_reducible exact laws_heldPlan.mono _ _ _ _ _)
      | (with_reducible exact laws_markIntS.mono _ _ _)
      | (with_reducible exact laws_markPlan.mono _ _ _ _ _)
      | (with_reducible exact laws_toIntS.mono _ _)
      | (with_reducible exact spec_SquaresPlan.mono _ _)
      | (with_reducible exact LeO.refl _)
      | (with_reducible exact LeO.none _)
      | (with_reducible refine LeO.ite ?_ ?_)
      | (with_reducible refine LeO.bind ?_ (fun _ => ?_))
      | exact ih0 _ _ _ _ _ _ _ _ _ _ _
      | exact ih1 _ _ _ _ _ _ _ _ _
      | exact ih2 _ _ _ _ _
      | exact impl_SquaresPlan.mono _ _
      | exact laws_eqIntS.mono _ _ _
      | exact laws_eqPlan.mono _ _ _ _ _ _ _
      | exact laws_heldPlan.mono _ _ _ _ _
      | exact laws_markIntS.mono _ _ _
      | exact laws_markPlan.mono _ _ _ _ _
      | exact laws_toIntS.mono _ _
      | exact spec_SquaresPlan.mono _ _
      | exact LeO.none _
      | refine LeO.ite ?_ ?_
      | refine LeO.bind ?_ (fun _ => ?_)
    · intro y0 y1 y2 y3 y4 y5 y6 y7 y8
      unfold laws_FnExactSquaresPlan.j1
      repeat' first
      | (with_reducible exact ih0 _ _ _ _ _ _ _ _ _ _ _)
      | (with_reducible exact ih1 _ _ _ _ _ _ _ _ _)
      | (with_reducible exact ih2 _ _ _ _ _)
      | (with_reducible exact impl_SquaresPlan.mono _ _)
      | (with_reducible exact laws_eqIntS.mono _ _ _)
      | (with_reducible exact laws_eqPlan.mono _ _ _ _ _ _ _)
      | (with_reducible exact laws_heldPlan.mono _ _ _ _ _)
      | (with_reducible exact laws_markIntS.mono _ _ _)
      | (with_reducible exact laws_markPlan.mono _ _ _ _ _)
      | (with_reducible exact laws_toIntS.mono _ _)
      | (with_reducible exact spec_SquaresPlan.mono _ _)
      | (with_reducible exact LeO.refl _)
      | (with_reducible exact LeO.none _)
      | (with_reducible refine LeO.ite ?_ ?_)
      | (with_reducible refine LeO.bind ?_ (fun _ => ?_))
      | exact ih0 _ _ _ _ _ _ _ _ _ _ _
      | exact ih1 _ _ _ _ _ _ _ _ _
      | exact ih2 _ _ _ _ _
      | exact impl_SquaresPlan.mono _ _
      | exact laws_eqIntS.mono _ _ _
      | exact laws_eqPlan.mono _ _ _ _ _ _ _
      | exact laws_heldPlan.mono _ _ _ _ _
      | exact laws_markIntS.mono _ _ _
      | exact laws_markPlan.mono _ _ _ _ _
      | exact laws_toIntS.mono _ _
      | exact spec_SquaresPlan.mono _ _
      | exact LeO.none _
      | refine LeO.ite ?_ ?_
      | refine LeO.bind ?_ (fun _ => ?_)
    · intro y0 y1 y2 y3 y4
      unfold laws_FnExactSquaresPlan.j2
      repeat' first
      | (with_reducible exact ih0 _ _ _ _ _ _ _ _ _ _ _)
      | (with_reducible exact ih1 _ _ _ _ _ _ _ _ _)
      | (with_reducible exact ih2 _ _ _ _ _)
      | (with_reducible exact impl_SquaresPlan.mono _ _)
      | (with_reducible exact laws_eqIntS.mono _ _ _)
      | (with_reducible exact laws_eqPlan.mono _ _ _ _ _ _ _)
      | (with_reducible exact laws_heldPlan.mono _ _ _ _ _)
      | (with_reducible exact laws_markIntS.mono _ _ _)
      | (with_reducible exact laws_markPlan.mono _ _ _ _ _)
      | (with_reducible exact laws_toIntS.mono _ _)
      | (with_reducible exact spec_SquaresPlan.mono _ _)
      | (with_reducible exact LeO.refl _)
      | (with_reducible exact LeO.none _)
      | (with_reducible refine LeO.ite ?_ ?_)
      | (with_reducible refine LeO.bind ?_ (fun _ => ?_))
      | exact ih0 _ _ _ _ _ _ _ _ _ _ _
      | exact ih1 _ _ _ _ _ _ _ _ _
      | exact ih2 _ _ _ _ _
      | exact impl_SquaresPlan.mono _ _
      | exact laws_eqIntS.mono _ _ _
      | exact laws_eqPlan.mono _ _ _ _ _ _ _
      | exact laws_heldPlan.mono _ _ _ _ _
      | exact laws_markIntS.mono _ _ _
      | exact laws_markPlan.mono _ _ _ _ _
      | exact laws_toIntS.mono _ _
      | exact spec_SquaresPlan.mono _ _
      | exact LeO.none _
      | refine LeO.ite ?_ ?_
      | refine LeO.bind ?_ (fun _ => ?_)
theorem laws_FnExactSquaresPlan.mono : ∀ a0 k, LeO (laws_FnExactSquaresPlan.f k a0) (laws_FnExactSquaresPlan.f (k + 1) a0) := by
  intro a0 k
  obtain ⟨ih0, ih1, ih2⟩ := laws_FnExactSquaresPlan.zb2 k
  unfold laws_FnExactSquaresPlan.f
  repeat' first
      | (with_reducible exact ih0 _ _ _ _ _ _ _ _ _ _ _)
      | (with_reducible exact ih1 _ _ _ _ _ _ _ _ _)
      | (with_reducible exact ih2 _ _ _ _ _)
      | (with_reducible exact impl_SquaresPlan.mono _ _)
      | (with_reducible exact laws_eqIntS.mono _ _ _)
      | (with_reducible exact laws_eqPlan.mono _ _ _ _ _ _ _)
      | (with_reducible exact laws_heldPlan.mono _ _ _ _ _)
      | (with_reducible exact laws_markIntS.mono _ _ _)
      | (with_reducible exact laws_markPlan.mono _ _ _ _ _)
      | (with_reducible exact laws_toIntS.mono _ _)
      | (with_reducible exact spec_SquaresPlan.mono _ _)
      | (with_reducible exact LeO.refl _)
      | (with_reducible exact LeO.none _)
      | (with_reducible refine LeO.ite ?_ ?_)
      | (with_reducible refine LeO.bind ?_ (fun _ => ?_))
      | exact ih0 _ _ _ _ _ _ _ _ _ _ _
      | exact ih1 _ _ _ _ _ _ _ _ _
      | exact ih2 _ _ _ _ _
      | exact impl_SquaresPlan.mono _ _
      | exact laws_eqIntS.mono _ _ _
      | exact laws_eqPlan.mono _ _ _ _ _ _ _
      | exact laws_heldPlan.mono _ _ _ _ _
      | exact laws_markIntS.mono _ _ _
      | exact laws_markPlan.mono _ _ _ _ _
      | exact laws_toIntS.mono _ _
      | exact spec_SquaresPlan.mono _ _
      | exact LeO.none _
      | refine LeO.ite ?_ ?_
      | refine LeO.bind ?_ (fun _ => ?_)
set_option maxHeartbeats 8000000 in
set_option maxRecDepth 100000 in
theorem laws_FnExactSquaresPlan.calls (k : Nat) (A0 : Option Addr) (c0 : Nat) (l0 : List Int) (r : Bool) (w : World) (hr0 : Kd.C (Kd.int .i64) w A0 l0.length l0) (hc0 : l0.length ≤ c0) (h : laws_FnExactSquaresPlan.f k l0 = some r) :
    Calls Try.prog 7 #[.slice A0 l0.length c0] w fun e w' => e = .returned (.bool r) ∧ Below w.heap.size w w' := by
  have hu36 := Try.underlying36
  have HR0 := Aside0.mk hr0
  have HC0 := Aside0.mk hc0
  clear hr0 hc0
  have HB := Aside0.mk (Below.refl w.heap.size w)
  have H : (if (l0.length : Int) > 1048576 then (some true) else ((laws_toIntS.f k l0).bind fun t673 => ((spec_SquaresPlan.f k t673).bind fun bt676 => ((laws_toIntS.f k l0).bind fun t685 => ((impl_SquaresPlan.f k t685).bind fun bt688 => ((laws_eqPlan.f k bt688.1 bt688.2.1 bt688.2.2.1 bt676.1 bt676.2.1 bt676.2.2.1).bind fun t697 => (if t697 = true then (laws_FnExactSquaresPlan.j0 k l0 bt676.2.2.2 t685 bt688.2.2.2 (bt688.2.2.2 != bt676.2.2.2) bt676.1 bt676.2.1 bt676.2.2.1 bt688.1 bt688.2.1 bt688.2.2.1) else (laws_FnExactSquaresPlan.j0 k l0 bt676.2.2.2 t685 bt688.2.2.2 true bt676.1 bt676.2.1 bt676.2.2.1 bt688.1 bt688.2.1 bt688.2.2.1)))))))) = some r := h
  clear h
  by_cases c2 : (l0.length : Int) > 1048576
  · rw [if_pos c2] at H
    have c2b0 : decide (1048576 < (l0.length : Int)) = true := decide_eq_true c2
    have c2b1 : decide (1048576 < l0.length) = true := decide_eq_true (by omega)
    clear c2
    obtain rfl := Option.some.inj H
    go_enter Try.func7, Try.ntmps7
    go_wp2
    go_ret
    exact ⟨by first | rfl | (simp [zai, zaj] <;> rfl) | (simp [*, zai, zaj] <;> rfl), by repeat (first | (with_reducible first | exact HB.out | apply za1 | apply za0 | apply za2) | exact HB.out)⟩
  · rw [if_neg c2] at H
    have c2b0 : decide (1048576 < (l0.length : Int)) = false := decide_eq_false c2
    have c2b1 : decide (1048576 < l0.length) = false := decide_eq_false (by omega)
    clear c2
    replace H := Option.bind_eq_some_iff.mp H
    obtain ⟨t673, A30, H⟩ := H
    replace H : ((spec_SquaresPlan.f k t673).bind fun bt676 => ((laws_toIntS.f k l0).bind fun t685 => ((impl_SquaresPlan.f k t685).bind fun bt688 => ((laws_eqPlan.f k bt688.1 bt688.2.1 bt688.2.2.1 bt676.1 bt676.2.1 bt676.2.2.1).bind fun t697 => (if t697 = true then (laws_FnExactSquaresPlan.j0 k l0 bt676.2.2.2 t685 bt688.2.2.2 (bt688.2.2.2 != bt676.2.2.2) bt676.1 bt676.2.1 bt676.2.2.1 bt688.1 bt688.2.1 bt688.2.2.1) else (laws_FnExactSquaresPlan.j0 k l0 bt676.2.2.2 t685 bt688.2.2.2 true bt676.1 bt676.2.1 bt676.2.2.1 bt688.1 bt688.2.1 bt688.2.2.1)))))) = some r := H
    have A3 := Aside0.mk A30
    clear A30
    replace H := Option.bind_eq_some_iff.mp H
    obtain ⟨⟨t676, t677, t680, t683⟩, A40, H⟩ := H
    replace H : ((laws_toIntS.f k l0).bind fun t685 => ((impl_SquaresPlan.f k t685).bind fun bt688 => ((laws_eqPlan.f k bt688.1 bt688.2.1 bt688.2.2.1 t676 t677 t680).bind fun t697 => (if t697 = true then (laws_FnExactSquaresPlan.j0 k l0 t683 t685 bt688.2.2.2 (bt688.2.2.2 != t683) t676 t677 t680 bt688.1 bt688.2.1 bt688.2.2.1) else (laws_FnExactSquaresPlan.j0 k l0 t683 t685 bt688.2.2.2 true t676 t677 t680 bt688.1 bt688.2.1 bt688.2.2.1))))) = some r := H
    have A4 := Aside0.mk A40
    clear A40
    replace H := Option.bind_eq_some_iff.mp H
    obtain ⟨t685, A50, H⟩ := H
    replace H : ((impl_SquaresPlan.f k t685).bind fun bt688 => ((laws_eqPlan.f k bt688.1 bt688.2.1 bt688.2.2.1 t676 t677 t680).bind fun t697 => (if t697 = true then (laws_FnExactSquaresPlan.j0 k l0 t683 t685 bt688.2.2.2 (bt688.2.2.2 != t683) t676 t677 t680 bt688.1 bt688.2.1 bt688.2.2.1) else (laws_FnExactSquaresPlan.j0 k l0 t683 t685 bt688.2.2.2 true t676 t677 t680 bt688.1 bt688.2.1 bt688.2.2.1)))) = some r := H
    have A5 := Aside0.mk A50
    clear A50
    replace H := Option.bind_eq_some_iff.mp H
    obtain ⟨⟨t688, t689, t692, t695⟩, A60, H⟩ := H
    replace H : ((laws_eqPlan.f k t688 t689 t692 t676 t677 t680).bind fun t697 => (if t697 = true then (laws_FnExactSquaresPlan.j0 k l0 t683 t685 t695 (t695 != t683) t676 t677 t680 t688 t689 t692) else (laws_FnExactSquaresPlan.j0 k l0 t683 t685 t695 true t676 t677 t680 t688 t689 t692))) = some r := H
    have A6 := Aside0.mk A60
    clear A60
    have HC7 := Aside0.mk H
    clear H
    go_enter Try.func7, Try.ntmps7
    go_upto_region 6 with (first | ((with_reducible refine zah (f := 28) rfl ?_); refine zay (some 18) rfl rfl Try.func28 (by kernel_rfl) rfl #[.slice A0 l0.length c0] rfl (by (try simp only [List.map_toArray, List.map_cons, List.map_nil]); first | done | rfl | (simp only [List.length_drop, List.length_take]; rfl)) ?_; (with_reducible refine (laws_toIntS.calls k _ _ l0 t673 _ ?side1 ?side2 A3.out).mono ?_); (case side1 => repeat (first | exact HR0.out | (with_reducible refine Kd.zar ?_ _) | (with_reducible refine Kd.zao ?_ _) | (with_reducible refine Kd.zau ?_))); (case side2 => exact HC0.out); rintro e w8 ⟨v674, rfl, ho0, hb⟩; refine ⟨_, rfl, ?_⟩; have n0_ := Aside0.mk (Kd.R_lower ho0 (zad (by repeat (first | (with_reducible first | exact HB.out | apply za1 | apply za0 | apply za2) | exact HB.out)))); have n1_ := Aside0.mk (zaf (by repeat (first | (with_reducible first | exact HB.out | apply za1 | apply za0 | apply za2) | exact HB.out)) hb); clear HB; have HO675 := n0_; have HB := n1_; clear n0_ n1_; (try clear hb); (try clear hb2); (try clear hk); (try clear hi); (try clear ho0); obtain ⟨Ao9, co9, eo9⟩ := Kd.zax HO675.out; subst eo9) | ((with_reducible refine zah (f := 37) rfl ?_); refine zay (some 19) rfl rfl Try.func37 (by kernel_rfl) rfl #[.slice Ao9 t673.length co9] rfl (by (try simp only [List.map_toArray, List.map_cons, List.map_nil]); first | done | rfl | (simp only [List.length_drop, List.length_take]; rfl)) ?_; (with_reducible refine (spec_SquaresPlan.calls k _ _ t673 t676 t677 t680 t683 _ ?side1 ?side2 A4.out).mono ?_); (case side1 => repeat (first | exact (Kd.R_reads' HO675.out).2.2 | (with_reducible refine Kd.zar ?_ _) | (with_reducible refine Kd.zao ?_ _) | (with_reducible refine Kd.zau ?_))); (case side2 => exact (Kd.R_reads' HO675.out).2.1); rintro e w10 ⟨v678, v681, rfl, ho0, ho1, hb⟩; refine ⟨_, rfl, ?_⟩; have n0_ := Aside0.mk (Kd.R_elder' (by (with_reducible repeat (first | apply Kd.za9 | apply Kd.zaa | apply Kd.zac)); exact HO675.out) (Kd.R_base ho1) hb); have n1_ := Aside0.mk (Kd.R_lower ho0 (zad (by repeat (first | (with_reducible first | exact HB.out | apply za1 | apply za0 | apply za2) | exact HB.out)))); have n2_ := Aside0.mk (Kd.R_lower (Kd.R_new' ho1 (Kd.R_lt (by (with_reducible repeat (first | apply Kd.za9 | apply Kd.zaa | apply Kd.zac)); exact HO675.out))) (zad (by repeat (first | (with_reducible first | exact HB.out | apply za1 | apply za0 | apply za2) | exact HB.out)))); have n3_ := Aside0.mk (zaf (by repeat (first | (with_reducible first | exact HB.out | apply za1 | apply za0 | apply za2) | exact HB.out)) hb); clear HO675; clear HB; have HO675 := n0_; have HO679 := n1_; have HO682 := n2_; have HB := n3_; clear n0_ n1_ n2_ n3_; (try clear hb); (try clear hb2); (try clear hk); (try clear hi); (try clear ho0); (try clear ho1)) | ((with_reducible refine zaq (N := 3) rfl ?_); refine zan ?hg (N := 3) ?hd (cs := #[.int .i64 0, .slice none 0 0, .slice none 0 0]) (t := 36) ?hr ?_; (case hd => rfl); (case hg => rfl); (case hr => first | (go_simp; done) | (go_simp; rfl)); intro gb684 hg w11 hbox hb; have n0_ := Aside0.mk (Kd.zal (by (with_reducible repeat (first | apply Kd.za9 | apply Kd.zaa | apply Kd.zac)); exact HO675.out) hb); have n1_ := Aside0.mk (Kd.zal (by (with_reducible repeat (first | apply Kd.za9 | apply Kd.zaa | apply Kd.zac)); exact HO679.out) hb); have n2_ := Aside0.mk (Kd.zal (by (with_reducible repeat (first | apply Kd.za9 | apply Kd.zaa | apply Kd.zac)); exact HO682.out) hb); have n3_ := Aside0.mk (zaf (by repeat (first | (with_reducible first | exact HB.out | apply za1 | apply za0 | apply za2) | exact HB.out)) hb); have n4_ := Aside0.mk (hbox); have n5_ := Aside0.mk ((by rw [hg]; exact (zad (by repeat (first | (with_reducible first | exact HB.out | apply za1 | apply za0 | apply za2) | exact HB.out))) : w.heap.size ≤ gb684)); have n6_ := Aside0.mk ((by rw [hg]; exact (zad (by repeat (first | (with_reducible first | exact HB.out | apply za1 | apply za0 | apply za2) | exact HB.out))) : w.heap.size ≤ gb684)); clear HO675; clear HO679; clear HO682; clear HB; have HO675 := n0_; have HO679 := n1_; have HO682 := n2_; have HB := n3_; have BK684 := n4_; have GW684 := n5_; have GE684 := n6_; clear n0_ n1_ n2_ n3_ n4_ n5_ n6_; clear hb hbox hg; have hcz12_0 : w11.cell? ⟨gb684, 0, none⟩ = some (.int .i64 0) := (za8 BK684.out 0).trans rfl; have hcz12_1 : w11.cell? ⟨gb684, 1, none⟩ = some (.slice none 0 0) := (za8 BK684.out 1).trans rfl; have hcz12_2 : w11.cell? ⟨gb684, 2, none⟩ = some (.slice none 0 0) := (za8 BK684.out 2).trans rfl; have hfz12_0 := za4 BK684.out 0; have hfz12_1 := za4 BK684.out 1; have hfz12_2 := za4 BK684.out 2; obtain ⟨Ao13, co13, eo13⟩ := Kd.zax HO679.out; subst eo13; obtain ⟨Ao14, co14, eo14⟩ := Kd.zax HO682.out; subst eo14) | ((with_reducible refine zah (f := 28) rfl ?_); refine zay (some 23) rfl rfl Try.func28 (by kernel_rfl) rfl #[.slice A0 l0.length c0] rfl (by (try simp only [List.map_toArray, List.map_cons, List.map_nil]); first | done | rfl | (simp only [List.length_drop, List.length_take]; rfl)) ?_; (with_reducible refine (laws_toIntS.calls k _ _ l0 t685 _ ?side1 ?side2 A5.out).mono ?_); (case side1 => exact Kd.zav HR0.out (by repeat (first | (with_reducible first | exact HB.out | apply za1 | apply za0 | apply za2 | refine za3 ?_ GE684.out) | exact HB.out))); (case side2 => exact HC0.out); rintro e w15 ⟨v686, rfl, ho0, hb⟩; refine ⟨_, rfl, ?_⟩; have n0_ := Aside0.mk (Kd.R_elder' (by (with_reducible repeat (first | apply Kd.za9 | apply Kd.zaa | apply Kd.zac)); exact (Kd.zak (Kd.R_far (p := ⟨gb684, 2, none⟩) (Kd.R_far (p := ⟨gb684, 1, none⟩) (Kd.R_far (p := ⟨gb684, 0, none⟩) (Kd.zas HO675.out BK684.out (by decide)) (fun _ hk => hk.2) (.int .i64 t676)) (fun _ hk => hk.2) (.slice Ao13 t677.length co13)) (fun _ hk => hk.2) (.slice Ao14 t680.length co14)) (fun _ h_ => h_.1))) (Kd.R_base ho0) hb); have n1_ := Aside0.mk (Kd.zal (by (with_reducible repeat (first | apply Kd.za9 | apply Kd.zaa | apply Kd.zac)); exact (Kd.zak (Kd.R_far (p := ⟨gb684, 2, none⟩) (Kd.R_far (p := ⟨gb684, 1, none⟩) (Kd.R_far (p := ⟨gb684, 0, none⟩) (Kd.zas HO679.out BK684.out (by decide)) (fun _ hk => hk.2) (.int .i64 t676)) (fun _ hk => hk.2) (.slice Ao13 t677.length co13)) (fun _ hk => hk.2) (.slice Ao14 t680.length co14)) (fun _ h_ => h_.1))) hb); have n2_ := Aside0.mk (Kd.R_elder' (by (with_reducible repeat (first | apply Kd.za9 | apply Kd.zaa | apply Kd.zac)); exact (Kd.zak (Kd.R_far (p := ⟨gb684, 2, none⟩) (Kd.R_far (p := ⟨gb684, 1, none⟩) (Kd.R_far (p := ⟨gb684, 0, none⟩) (Kd.zas HO682.out BK684.out (by decide)) (fun _ hk => hk.2) (.int .i64 t676)) (fun _ hk => hk.2) (.slice Ao13 t677.length co13)) (fun _ hk => hk.2) (.slice Ao14 t680.length co14)) (fun _ h_ => h_.1))) (Kd.R_base ho0) hb); have n3_ := Aside0.mk (Kd.R_lower (Kd.R_new' (Kd.R_new' ho0 (Kd.R_lt (by (with_reducible repeat (first | apply Kd.za9 | apply Kd.zaa | apply Kd.zac)); exact (Kd.zak (Kd.R_far (p := ⟨gb684, 2, none⟩) (Kd.R_far (p := ⟨gb684, 1, none⟩) (Kd.R_far (p := ⟨gb684, 0, none⟩) (Kd.zas HO675.out BK684.out (by decide)) (fun _ hk => hk.2) (.int .i64 t676)) (fun _ hk => hk.2) (.slice Ao13 t677.length co13)) (fun _ hk => hk.2) (.slice Ao14 t680.length co14)) (fun _ h_ => h_.1))))) (Kd.R_lt (by (with_reducible repeat (first | apply Kd.za9 | apply Kd.zaa | apply Kd.zac)); exact (Kd.zak (Kd.R_far (p := ⟨gb684, 2, none⟩) (Kd.R_far (p := ⟨gb684, 1, none⟩) (Kd.R_far (p := ⟨gb684, 0, none⟩) (Kd.zas HO682.out BK684.out (by decide)) (fun _ hk => hk.2) (.int .i64 t676)) (fun _ hk => hk.2) (.slice Ao13 t677.length co13)) (fun _ hk => hk.2) (.slice Ao14 t680.length co14)) (fun _ h_ => h_.1))))) (zad (by repeat (first | (with_reducible first | exact HB.out | apply za1 | apply za0 | apply za2 | refine za3 ?_ GE684.out) | exact HB.out)))); have n4_ := Aside0.mk (zae (g := gb684) (o := .cells #[.int .i64 t676, .slice Ao13 t677.length co13, .slice Ao14 t680.length co14] 36 (0, 0)) (by (with_reducible repeat (first | refine za5 ?_ _ | refine za7 ?_ | refine za6 ?_ _)); refine zaw (cs := #[.int .i64 t676, .slice Ao13 t677.length co13, .slice none 0 0]) ?_ 2 _ rfl; (with_reducible repeat (first | refine za5 ?_ _ | refine za7 ?_ | refine za6 ?_ _)); refine zaw (cs := #[.int .i64 t676, .slice none 0 0, .slice none 0 0]) ?_ 1 _ rfl; (with_reducible repeat (first | refine za5 ?_ _ | refine za7 ?_ | refine za6 ?_ _)); refine zaw (cs := #[.int .i64 0, .slice none 0 0, .slice none 0 0]) ?_ 0 _ rfl; (with_reducible repeat (first | refine za5 ?_ _ | refine za7 ?_ | refine za6 ?_ _)); exact BK684.out) hb); have n5_ := Aside0.mk (zaf (by repeat (first | (with_reducible first | exact HB.out | apply za1 | apply za0 | apply za2 | refine za3 ?_ GE684.out) | exact HB.out)) hb); clear HO675; clear HO679; clear HO682; clear BK684; clear HB; have HO675 := n0_; have HO679 := n1_; have HO682 := n2_; have HO687 := n3_; have BK684 := n4_; have HB := n5_; clear n0_ n1_ n2_ n3_ n4_ n5_; (try clear hb); (try clear hb2); (try clear hk); (try clear hi); (try clear ho0); obtain ⟨Ao16, co16, eo16⟩ := Kd.zax HO687.out; subst eo16) | ((with_reducible refine zah (f := 38) rfl ?_); refine zay (some 26) rfl rfl Try.func38 (by kernel_rfl) rfl #[.slice Ao16 t685.length co16] rfl (by (try simp only [List.map_toArray, List.map_cons, List.map_nil]); first | done | rfl | (simp only [List.length_drop, List.length_take]; rfl)) ?_; (with_reducible refine (impl_SquaresPlan.calls k _ _ t685 t688 t689 t692 t695 _ ?side1 ?side2 A6.out).mono ?_); (case side1 => repeat (first | exact (Kd.R_reads' HO687.out).2.2 | (with_reducible refine Kd.zar ?_ _) | (with_reducible refine Kd.zao ?_ _) | (with_reducible refine Kd.zau ?_))); (case side2 => exact (Kd.R_reads' HO687.out).2.1); rintro e w17 ⟨v690, v693, rfl, ho0, ho1, hb⟩; refine ⟨_, rfl, ?_⟩; have n0_ := Aside0.mk (Kd.R_elder' (by (with_reducible repeat (first | apply Kd.za9 | apply Kd.zaa | apply Kd.zac)); exact HO675.out) (Kd.R_base ho1) hb); have n1_ := Aside0.mk (Kd.R_elder' (by (with_reducible repeat (first | apply Kd.za9 | apply Kd.zaa | apply Kd.zac)); exact HO679.out) (Kd.R_base ho0) hb); have n2_ := Aside0.mk (Kd.R_elder' (by (with_reducible repeat (first | apply Kd.za9 | apply Kd.zaa | apply Kd.zac)); exact HO682.out) (Kd.R_base ho1) hb); have n3_ := Aside0.mk (Kd.R_elder' (by (with_reducible repeat (first | apply Kd.za9 | apply Kd.zaa | apply Kd.zac)); exact HO687.out) (Kd.R_base ho1) hb); have n4_ := Aside0.mk (Kd.R_lower (Kd.R_new' ho0 (Kd.R_lt (by (with_reducible repeat (first | apply Kd.za9 | apply Kd.zaa | apply Kd.zac)); exact HO679.out))) (zad (by repeat (first | (with_reducible first | exact HB.out | apply za1 | apply za0 | apply za2 | refine za3 ?_ GE684.out) | exact HB.out)))); have n5_ := Aside0.mk (Kd.R_lower (Kd.R_new' (Kd.R_new' (Kd.R_new' ho1 (Kd.R_lt (by (with_reducible repeat (first | apply Kd.za9 | apply Kd.zaa | apply Kd.zac)); exact HO675.out))) (Kd.R_lt (by (with_reducible repeat (first | apply Kd.za9 | apply Kd.zaa | apply Kd.zac)); exact HO682.out))) (Kd.R_lt (by (with_reducible repeat (first | apply Kd.za9 | apply Kd.zaa | apply Kd.zac)); exact HO687.out))) (zad (by repeat (first | (with_reducible first | exact HB.out | apply za1 | apply za0 | apply za2 | refine za3 ?_ GE684.out) | exact HB.out)))); have n6_ := Aside0.mk (zae (g := gb684) (o := .cells #[.int .i64 t676, .slice Ao13 t677.length co13, .slice Ao14 t680.length co14] 36 (0, 0)) (by (with_reducible repeat (first | refine za5 ?_ _ | refine za7 ?_ | refine za6 ?_ _)); exact BK684.out) hb); have n7_ := Aside0.mk (zaf (by repeat (first | (with_reducible first | exact HB.out | apply za1 | apply za0 | apply za2 | refine za3 ?_ GE684.out) | exact HB.out)) hb); clear HO675; clear HO679; clear HO682; clear HO687; clear BK684; clear HB; have HO675 := n0_; have HO679 := n1_; have HO682 := n2_; have HO687 := n3_; have HO691 := n4_; have HO694 := n5_; have BK684 := n6_; have HB := n7_; clear n0_ n1_ n2_ n3_ n4_ n5_ n6_ n7_; (try clear hb); (try clear hb2); (try clear hk); (try clear hi); (try clear ho0); (try clear ho1)) | ((with_reducible refine zaq (N := 6) rfl ?_); refine zan ?hg (N := 6) ?hd (cs := #[.int .i64 0, .slice none 0 0, .slice none 0 0]) (t := 36) ?hr ?_; (case hd => rfl); (case hg => rfl); (case hr => first | (go_simp; done) | (go_simp; rfl)); intro gb696 hg w18 hbox hb; have n0_ := Aside0.mk (Kd.zal (by (with_reducible repeat (first | apply Kd.za9 | apply Kd.zaa | apply Kd.zac)); exact HO675.out) hb); have n1_ := Aside0.mk (Kd.zal (by (with_reducible repeat (first | apply Kd.za9 | apply Kd.zaa | apply Kd.zac)); exact HO679.out) hb); have n2_ := Aside0.mk (Kd.zal (by (with_reducible repeat (first | apply Kd.za9 | apply Kd.zaa | apply Kd.zac)); exact HO682.out) hb); have n3_ := Aside0.mk (Kd.zal (by (with_reducible repeat (first | apply Kd.za9 | apply Kd.zaa | apply Kd.zac)); exact HO687.out) hb); have n4_ := Aside0.mk (Kd.zal (by (with_reducible repeat (first | apply Kd.za9 | apply Kd.zaa | apply Kd.zac)); exact HO691.out) hb); have n5_ := Aside0.mk (Kd.zal (by (with_reducible repeat (first | apply Kd.za9 | apply Kd.zaa | apply Kd.zac)); exact HO694.out) hb); have n6_ := Aside0.mk (zae (g := gb684) (o := .cells #[.int .i64 t676, .slice Ao13 t677.length co13, .slice Ao14 t680.length co14] 36 (0, 0)) (by (with_reducible repeat (first | refine za5 ?_ _ | refine za7 ?_ | refine za6 ?_ _)); exact BK684.out) hb); have n7_ := Aside0.mk (zaf (by repeat (first | (with_reducible first | exact HB.out | apply za1 | apply za0 | apply za2 | refine za3 ?_ GE684.out) | exact HB.out)) hb); have n8_ := Aside0.mk (hbox); have n9_ := Aside0.mk ((by rw [hg]; exact (zad (by repeat (first | (with_reducible first | exact HB.out | apply za1 | apply za0 | apply za2 | refine za3 ?_ GE684.out) | exact HB.out))) : w.heap.size ≤ gb696)); have n10_ := Aside0.mk ((by rw [hg]; exact (zad (by repeat (first | (with_reducible first | exact HB.out | apply za1 | apply za0 | apply za2 | refine za3 ?_ GE684.out) | exact HB.out))) : w.heap.size ≤ gb696)); have n11_ := Aside0.mk ((by rw [hg]; exact Nat.ne_of_lt (zb0 (g := gb684) (o := .cells #[.int .i64 t676, .slice Ao13 t677.length co13, .slice Ao14 t680.length co14] 36 (0, 0)) (by (with_reducible repeat (first | refine za5 ?_ _ | refine za7 ?_ | refine za6 ?_ _)); exact BK684.out)) : gb684 ≠ gb696)); have n12_ := Aside0.mk ((by rw [hg]; exact Nat.ne_of_gt (zb0 (g := gb684) (o := .cells #[.int .i64 t676, .slice Ao13 t677.length co13, .slice Ao14 t680.length co14] 36 (0, 0)) (by (with_reducible repeat (first | refine za5 ?_ _ | refine za7 ?_ | refine za6 ?_ _)); exact BK684.out)) : gb696 ≠ gb684)); clear HO675; clear HO679; clear HO682; clear HO687; clear HO691; clear HO694; clear BK684; clear HB; have HO675 := n0_; have HO679 := n1_; have HO682 := n2_; have HO687 := n3_; have HO691 := n4_; have HO694 := n5_; have BK684 := n6_; have HB := n7_; have BK696 := n8_; have GW696 := n9_; have GE696 := n10_; have NB684_696 := n11_; have NB696_684 := n12_; clear n0_ n1_ n2_ n3_ n4_ n5_ n6_ n7_ n8_ n9_ n10_ n11_ n12_; clear hb hbox hg; have hnb19 := NB696_684.out; have hnc19 := NB684_696.out; have hcz20_0 : w18.cell? ⟨gb696, 0, none⟩ = some (.int .i64 0) := (za8 BK696.out 0).trans rfl; have hcz20_1 : w18.cell? ⟨gb696, 1, none⟩ = some (.slice none 0 0) := (za8 BK696.out 1).trans rfl; have hcz20_2 : w18.cell? ⟨gb696, 2, none⟩ = some (.slice none 0 0) := (za8 BK696.out 2).trans rfl; have hfz20_0 := za4 BK696.out 0; have hfz20_1 := za4 BK696.out 1; have hfz20_2 := za4 BK696.out 2; obtain ⟨Ao21, co21, eo21⟩ := Kd.zax HO691.out; subst eo21; obtain ⟨Ao22, co22, eo22⟩ := Kd.zax HO694.out; subst eo22))
    (try simp only [Act.put, List.setIfInBounds_toArray, List.set_cons_zero, List.set_cons_succ])
    go_cut [37] (fun v37 wc => ∃ (kq : Nat) (x37_6 : Bool), v37 = .bool x37_6 ∧ Aside0 (laws_FnExactSquaresPlan.j0 kq l0 t683 t685 t695 x37_6 t676 t677 t680 t688 t689 t692 = some r) ∧ Aside0 (kq ≤ k) ∧ Aside0 (Kd.R (Kd.int .i64) 3 wc w.heap.size (fun k_ => some k_ ≠ ((.slice Ao14 t680.length co14) : Value).ownBlock ∧ some k_ ≠ ((.slice Ao22 t692.length co22) : Value).ownBlock) (.slice Ao16 t685.length co16) t685) ∧ Aside0 (Kd.R k117 117 wc w.heap.size (fun k_ => some k_ ≠ ((.slice Ao21 t689.length co21) : Value).ownBlock) (.slice Ao13 t677.length co13) t677) ∧ Aside0 (Kd.R (Kd.int .i64) 3 wc w.heap.size (fun k_ => some k_ ≠ ((.slice Ao16 t685.length co16) : Value).ownBlock ∧ some k_ ≠ ((.slice Ao22 t692.length co22) : Value).ownBlock) (.slice Ao14 t680.length co14) t680) ∧ Aside0 (Kd.R k117 117 wc w.heap.size (fun k_ => some k_ ≠ ((.slice Ao13 t677.length co13) : Value).ownBlock) (.slice Ao21 t689.length co21) t689) ∧ Aside0 (Kd.R (Kd.int .i64) 3 wc w.heap.size (fun k_ => some k_ ≠ ((.slice Ao16 t685.length co16) : Value).ownBlock ∧ some k_ ≠ ((.slice Ao14 t680.length co14) : Value).ownBlock) (.slice Ao22 t692.length co22) t692) ∧ Aside0 (wc.heap[gb684]? = some (.cells #[.int .i64 t676, (.slice Ao13 t677.length co13), (.slice Ao14 t680.length co14)] 36 (0, 0))) ∧ Aside0 (wc.heap[gb696]? = some (.cells #[.int .i64 t688, (.slice Ao21 t689.length co21), (.slice Ao22 t692.length co22)] 36 (0, 0))) ∧ Aside0 (Below w.heap.size w wc))
    case first =>
      have H := HC7.out
      clear HC7
      replace H := Option.bind_eq_some_iff.mp H
      obtain ⟨t697, A230, H⟩ := H
      replace H : (if t697 = true then (laws_FnExactSquaresPlan.j0 k l0 t683 t685 t695 (t695 != t683) t676 t677 t680 t688 t689 t692) else (laws_FnExactSquaresPlan.j0 k l0 t683 t685 t695 true t676 t677 t680 t688 t689 t692)) = some r := H
      have A23 := Aside0.mk A230
      clear A230
      by_cases c24 : t697 = true
      · subst c24
        have H1 : (laws_FnExactSquaresPlan.j0 k l0 t683 t685 t695 (t695 != t683) t676 t677 t680 t688 t689 t692) = some r := by rw [if_pos rfl] at H; exact H
        clear H
        have H := H1
        clear H1
        have H' := Aside0.mk H
        clear H
        have hnb25 := NB696_684.out
        have hnc25 := NB684_696.out
        have hcz26_0 : w18.cell? ⟨gb696, 0, none⟩ = some (.int .i64 0) := (za8 BK696.out 0).trans rfl
        have hcz26_1 : w18.cell? ⟨gb696, 1, none⟩ = some (.slice none 0 0) := (za8 BK696.out 1).trans rfl
        have hcz26_2 : w18.cell? ⟨gb696, 2, none⟩ = some (.slice none 0 0) := (za8 BK696.out 2).trans rfl
        have hfz26_0 := za4 BK696.out 0
        have hfz26_1 := za4 BK696.out 1
        have hfz26_2 := za4 BK696.out 2
        have hcz27_0 : w18.cell? ⟨gb684, 0, none⟩ = some (.int .i64 t676) := (za8 BK684.out 0).trans rfl
        have hcz27_1 : w18.cell? ⟨gb684, 1, none⟩ = some (.slice Ao13 t677.length co13) := (za8 BK684.out 1).trans rfl
        have hcz27_2 : w18.cell? ⟨gb684, 2, none⟩ = some (.slice Ao14 t680.length co14) := (za8 BK684.out 2).trans rfl
        have hfz27_0 := za4 BK684.out 0
        have hfz27_1 := za4 BK684.out 1
        have hfz27_2 := za4 BK684.out 2
        go_wp2_with (first | ((with_reducible refine zah (f := 23) rfl ?_); refine zay (some 31) rfl rfl Try.func23 (by kernel_rfl) rfl #[.agg #[.int .i64 t688, .slice Ao21 t689.length co21, .slice Ao22 t692.length co22], .agg #[.int .i64 t676, .slice Ao13 t677.length co13, .slice Ao14 t680.length co14]] rfl (by (try simp only [List.map_toArray, List.map_cons, List.map_nil]); first | done | rfl | (simp only [List.length_drop, List.length_take]; rfl)) ?_; (with_reducible refine (laws_eqPlan.calls k t688 _ _ t689 _ _ t692 t676 _ _ t677 _ _ t680 true _ ?side1 ?side2 ?side3 ?side4 ?side5 ?side6 ?side7 ?side8 A23.out).mono ?_); (case side1 => refine (Kd.R_reads' (e := 117) (base := w.heap.size) (ok := fun k_ => (True ∧ some k_ ≠ (.slice Ao13 t677.length co13 : Value).ownBlock)) (n := t689.length) (c := co21) ?_).2.2; exact (by (with_reducible repeat (first | apply Kd.za9 | apply Kd.zaa | apply Kd.zac)); exact (Kd.zak (Kd.R_far (p := ⟨gb696, 2, none⟩) (Kd.R_far (p := ⟨gb696, 1, none⟩) (Kd.R_far (p := ⟨gb696, 0, none⟩) (Kd.zas HO691.out BK696.out (by decide)) (fun _ hk => hk.2) (.int .i64 t688)) (fun _ hk => hk.2) (.slice Ao21 t689.length co21)) (fun _ hk => hk.2) (.slice Ao22 t692.length co22)) (fun _ h_ => h_.1)))); (case side2 => exact (Kd.R_reads' HO691.out).2.1); (case side3 => refine (Kd.R_reads' (e := 3) (base := w.heap.size) (ok := fun k_ => (((True ∧ some k_ ≠ (.slice Ao9 t673.length co9 : Value).ownBlock) ∧ some k_ ≠ (.slice Ao14 t680.length co14 : Value).ownBlock) ∧ some k_ ≠ (.slice Ao16 t685.length co16 : Value).ownBlock)) (n := t692.length) (c := co22) ?_).2.2; exact (by (with_reducible repeat (first | apply Kd.za9 | apply Kd.zaa | apply Kd.zac)); exact (Kd.zak (Kd.R_far (p := ⟨gb696, 2, none⟩) (Kd.R_far (p := ⟨gb696, 1, none⟩) (Kd.R_far (p := ⟨gb696, 0, none⟩) (Kd.zas HO694.out BK696.out (by decide)) (fun _ hk => hk.2) (.int .i64 t688)) (fun _ hk => hk.2) (.slice Ao21 t689.length co21)) (fun _ hk => hk.2) (.slice Ao22 t692.length co22)) (fun _ h_ => h_.1)))); (case side4 => exact (Kd.R_reads' HO694.out).2.1); (case side5 => refine (Kd.R_reads' (e := 117) (base := w.heap.size) (ok := fun k_ => (True ∧ some k_ ≠ (.slice Ao21 t689.length co21 : Value).ownBlock)) (n := t677.length) (c := co13) ?_).2.2; exact (by (with_reducible repeat (first | apply Kd.za9 | apply Kd.zaa | apply Kd.zac)); exact (Kd.zak (Kd.R_far (p := ⟨gb696, 2, none⟩) (Kd.R_far (p := ⟨gb696, 1, none⟩) (Kd.R_far (p := ⟨gb696, 0, none⟩) (Kd.zas HO679.out BK696.out (by decide)) (fun _ hk => hk.2) (.int .i64 t688)) (fun _ hk => hk.2) (.slice Ao21 t689.length co21)) (fun _ hk => hk.2) (.slice Ao22 t692.length co22)) (fun _ h_ => h_.1)))); (case side6 => exact (Kd.R_reads' HO679.out).2.1); (case side7 => refine (Kd.R_reads' (e := 3) (base := w.heap.size) (ok := fun k_ => (((True ∧ some k_ ≠ (.slice Ao9 t673.length co9 : Value).ownBlock) ∧ some k_ ≠ (.slice Ao16 t685.length co16 : Value).ownBlock) ∧ some k_ ≠ (.slice Ao22 t692.length co22 : Value).ownBlock)) (n := t680.length) (c := co14) ?_).2.2; exact (by (with_reducible repeat (first | apply Kd.za9 | apply Kd.zaa | apply Kd.zac)); exact (Kd.zak (Kd.R_far (p := ⟨gb696, 2, none⟩) (Kd.R_far (p := ⟨gb696, 1, none⟩) (Kd.R_far (p := ⟨gb696, 0, none⟩) (Kd.zas HO682.out BK696.out (by decide)) (fun _ hk => hk.2) (.int .i64 t688)) (fun _ hk => hk.2) (.slice Ao21 t689.length co21)) (fun _ hk => hk.2) (.slice Ao22 t692.length co22)) (fun _ h_ => h_.1)))); (case side8 => exact (Kd.R_reads' HO682.out).2.1); rintro e w28 ⟨rfl, hb⟩; refine ⟨_, rfl, ?_⟩; have n0_ := Aside0.mk (Kd.zal (by (with_reducible repeat (first | apply Kd.za9 | apply Kd.zaa | apply Kd.zac)); exact (Kd.zak (Kd.R_far (p := ⟨gb696, 2, none⟩) (Kd.R_far (p := ⟨gb696, 1, none⟩) (Kd.R_far (p := ⟨gb696, 0, none⟩) (Kd.zas HO675.out BK696.out (by decide)) (fun _ hk => hk.2) (.int .i64 t688)) (fun _ hk => hk.2) (.slice Ao21 t689.length co21)) (fun _ hk => hk.2) (.slice Ao22 t692.length co22)) (fun _ h_ => h_.1))) hb); have n1_ := Aside0.mk (Kd.zal (by (with_reducible repeat (first | apply Kd.za9 | apply Kd.zaa | apply Kd.zac)); exact (Kd.zak (Kd.R_far (p := ⟨gb696, 2, none⟩) (Kd.R_far (p := ⟨gb696, 1, none⟩) (Kd.R_far (p := ⟨gb696, 0, none⟩) (Kd.zas HO679.out BK696.out (by decide)) (fun _ hk => hk.2) (.int .i64 t688)) (fun _ hk => hk.2) (.slice Ao21 t689.length co21)) (fun _ hk => hk.2) (.slice Ao22 t692.length co22)) (fun _ h_ => h_.1))) hb); have n2_ := Aside0.mk (Kd.zal (by (with_reducible repeat (first | apply Kd.za9 | apply Kd.zaa | apply Kd.zac)); exact (Kd.zak (Kd.R_far (p := ⟨gb696, 2, none⟩) (Kd.R_far (p := ⟨gb696, 1, none⟩) (Kd.R_far (p := ⟨gb696, 0, none⟩) (Kd.zas HO682.out BK696.out (by decide)) (fun _ hk => hk.2) (.int .i64 t688)) (fun _ hk => hk.2) (.slice Ao21 t689.length co21)) (fun _ hk => hk.2) (.slice Ao22 t692.length co22)) (fun _ h_ => h_.1))) hb); have n3_ := Aside0.mk (Kd.zal (by (with_reducible repeat (first | apply Kd.za9 | apply Kd.zaa | apply Kd.zac)); exact (Kd.zak (Kd.R_far (p := ⟨gb696, 2, none⟩) (Kd.R_far (p := ⟨gb696, 1, none⟩) (Kd.R_far (p := ⟨gb696, 0, none⟩) (Kd.zas HO687.out BK696.out (by decide)) (fun _ hk => hk.2) (.int .i64 t688)) (fun _ hk => hk.2) (.slice Ao21 t689.length co21)) (fun _ hk => hk.2) (.slice Ao22 t692.length co22)) (fun _ h_ => h_.1))) hb); have n4_ := Aside0.mk (Kd.zal (by (with_reducible repeat (first | apply Kd.za9 | apply Kd.zaa | apply Kd.zac)); exact (Kd.zak (Kd.R_far (p := ⟨gb696, 2, none⟩) (Kd.R_far (p := ⟨gb696, 1, none⟩) (Kd.R_far (p := ⟨gb696, 0, none⟩) (Kd.zas HO691.out BK696.out (by decide)) (fun _ hk => hk.2) (.int .i64 t688)) (fun _ hk => hk.2) (.slice Ao21 t689.length co21)) (fun _ hk => hk.2) (.slice Ao22 t692.length co22)) (fun _ h_ => h_.1))) hb); have n5_ := Aside0.mk (Kd.zal (by (with_reducible repeat (first | apply Kd.za9 | apply Kd.zaa | apply Kd.zac)); exact (Kd.zak (Kd.R_far (p := ⟨gb696, 2, none⟩) (Kd.R_far (p := ⟨gb696, 1, none⟩) (Kd.R_far (p := ⟨gb696, 0, none⟩) (Kd.zas HO694.out BK696.out (by decide)) (fun _ hk => hk.2) (.int .i64 t688)) (fun _ hk => hk.2) (.slice Ao21 t689.length co21)) (fun _ hk => hk.2) (.slice Ao22 t692.length co22)) (fun _ h_ => h_.1))) hb); have n6_ := Aside0.mk (zae (g := gb684) (o := .cells #[.int .i64 t676, .slice Ao13 t677.length co13, .slice Ao14 t680.length co14] 36 (0, 0)) (by (with_reducible repeat (first | refine za5 ?_ _ | refine za7 ?_ | refine za6 ?_ _)); refine zb1 ?_ NB684_696.out _; (with_reducible repeat (first | refine za5 ?_ _ | refine za7 ?_ | refine za6 ?_ _)); refine zb1 ?_ NB684_696.out _; (with_reducible repeat (first | refine za5 ?_ _ | refine za7 ?_ | refine za6 ?_ _)); refine zb1 ?_ NB684_696.out _; (with_reducible repeat (first | refine za5 ?_ _ | refine za7 ?_ | refine za6 ?_ _)); exact BK684.out) hb); have n7_ := Aside0.mk (zae (g := gb696) (o := .cells #[.int .i64 t688, .slice Ao21 t689.length co21, .slice Ao22 t692.length co22] 36 (0, 0)) (by (with_reducible repeat (first | refine za5 ?_ _ | refine za7 ?_ | refine za6 ?_ _)); refine zaw (cs := #[.int .i64 t688, .slice Ao21 t689.length co21, .slice none 0 0]) ?_ 2 _ rfl; (with_reducible repeat (first | refine za5 ?_ _ | refine za7 ?_ | refine za6 ?_ _)); refine zaw (cs := #[.int .i64 t688, .slice none 0 0, .slice none 0 0]) ?_ 1 _ rfl; (with_reducible repeat (first | refine za5 ?_ _ | refine za7 ?_ | refine za6 ?_ _)); refine zaw (cs := #[.int .i64 0, .slice none 0 0, .slice none 0 0]) ?_ 0 _ rfl; (with_reducible repeat (first | refine za5 ?_ _ | refine za7 ?_ | refine za6 ?_ _)); exact BK696.out) hb); have n8_ := Aside0.mk (zaf (by repeat (first | (with_reducible first | exact HB.out | apply za1 | apply za0 | apply za2 | refine za3 ?_ GE684.out | refine za3 ?_ GE696.out) | exact HB.out)) hb); clear HO675; clear HO679; clear HO682; clear HO687; clear HO691; clear HO694; clear BK684; clear BK696; clear HB; have HO675 := n0_; have HO679 := n1_; have HO682 := n2_; have HO687 := n3_; have HO691 := n4_; have HO694 := n5_; have BK684 := n6_; have BK696 := n7_; have HB := n8_; clear n0_ n1_ n2_ n3_ n4_ n5_ n6_ n7_ n8_; (try clear hb); (try clear hb2); (try clear hk); (try clear hi)))
        go_meet
        case rel => exact ⟨_, ((t695 != t683)), (by first | rfl | (simp; done) | (simp [*]; done)), H', ⟨by first | omega | exact Nat.le_refl _⟩, ⟨by (with_reducible repeat (first | apply Kd.za9 | apply Kd.zaa | apply Kd.zac)); exact Kd.zak HO687.out (fun _ hk => ⟨hk.1.2, hk.2⟩)⟩, ⟨by (with_reducible repeat (first | apply Kd.za9 | apply Kd.zaa | apply Kd.zac)); exact Kd.zak HO679.out (fun _ hk => hk.2)⟩, ⟨by (with_reducible repeat (first | apply Kd.za9 | apply Kd.zaa | apply Kd.zac)); exact Kd.zak HO682.out (fun _ hk => ⟨hk.1.2, hk.2⟩)⟩, ⟨by (with_reducible repeat (first | apply Kd.za9 | apply Kd.zaa | apply Kd.zac)); exact Kd.zak HO691.out (fun _ hk => hk.2)⟩, ⟨by (with_reducible repeat (first | apply Kd.za9 | apply Kd.zaa | apply Kd.zac)); exact Kd.zak HO694.out (fun _ hk => ⟨hk.2, hk.1.2⟩)⟩, ⟨by (with_reducible repeat (first | refine za5 ?_ _ | refine za7 ?_ | refine za6 ?_ _)); exact BK684.out⟩, ⟨by (with_reducible repeat (first | refine za5 ?_ _ | refine za7 ?_ | refine za6 ?_ _)); exact BK696.out⟩, ⟨by repeat (first | (with_reducible first | exact HB.out | apply za1 | apply za0 | apply za2 | refine za3 ?_ GE684.out | refine za3 ?_ GE696.out) | exact HB.out)⟩⟩
      · replace c24 := Bool.eq_false_iff.mpr c24
        subst c24
        have H1 : (laws_FnExactSquaresPlan.j0 k l0 t683 t685 t695 true t676 t677 t680 t688 t689 t692) = some r := by rw [if_neg (show ¬ (false = true) by decide)] at H; exact H
        clear H
        have H := H1
        clear H1
        have H' := Aside0.mk H
        clear H
        have hnb29 := NB696_684.out
        have hnc29 := NB684_696.out
        have hcz30_0 : w18.cell? ⟨gb696, 0, none⟩ = some (.int .i64 0) := (za8 BK696.out 0).trans rfl
        have hcz30_1 : w18.cell? ⟨gb696, 1, none⟩ = some (.slice none 0 0) := (za8 BK696.out 1).trans rfl
        have hcz30_2 : w18.cell? ⟨gb696, 2, none⟩ = some (.slice none 0 0) := (za8 BK696.out 2).trans rfl
        have hfz30_0 := za4 BK696.out 0
        have hfz30_1 := za4 BK696.out 1
        have hfz30_2 := za4 BK696.out 2
        have hcz31_0 : w18.cell? ⟨gb684, 0, none⟩ = some (.int .i64 t676) := (za8 BK684.out 0).trans rfl
        have hcz31_1 : w18.cell? ⟨gb684, 1, none⟩ = some (.slice Ao13 t677.length co13) := (za8 BK684.out 1).trans rfl
        have hcz31_2 : w18.cell? ⟨gb684, 2, none⟩ = some (.slice Ao14 t680.length co14) := (za8 BK684.out 2).trans rfl
        have hfz31_0 := za4 BK684.out 0
        have hfz31_1 := za4 BK684.out 1
        have hfz31_2 := za4 BK684.out 2
        go_wp2_with (first | ((with_reducible refine zah (f := 23) rfl ?_); refine zay (some 31) rfl rfl Try.func23 (by kernel_rfl) rfl #[.agg #[.int .i64 t688, .slice Ao21 t689.length co21, .slice Ao22 t692.length co22], .agg #[.int .i64 t676, .slice Ao13 t677.length co13, .slice Ao14 t680.length co14]] rfl (by (try simp only [List.map_toArray, List.map_cons, List.map_nil]); first | done | rfl | (simp only [List.length_drop, List.length_take]; rfl)) ?_; (with_reducible refine (laws_eqPlan.calls k t688 _ _ t689 _ _ t692 t676 _ _ t677 _ _ t680 false _ ?side1 ?side2 ?side3 ?side4 ?side5 ?side6 ?side7 ?side8 A23.out).mono ?_); (case side1 => refine (Kd.R_reads' (e := 117) (base := w.heap.size) (ok := fun k_ => (True ∧ some k_ ≠ (.slice Ao13 t677.length co13 : Value).ownBlock)) (n := t689.length) (c := co21) ?_).2.2; exact (by (with_reducible repeat (first | apply Kd.za9 | apply Kd.zaa | apply Kd.zac)); exact (Kd.zak (Kd.R_far (p := ⟨gb696, 2, none⟩) (Kd.R_far (p := ⟨gb696, 1, none⟩) (Kd.R_far (p := ⟨gb696, 0, none⟩) (Kd.zas HO691.out BK696.out (by decide)) (fun _ hk => hk.2) (.int .i64 t688)) (fun _ hk => hk.2) (.slice Ao21 t689.length co21)) (fun _ hk => hk.2) (.slice Ao22 t692.length co22)) (fun _ h_ => h_.1)))); (case side2 => exact (Kd.R_reads' HO691.out).2.1); (case side3 => refine (Kd.R_reads' (e := 3) (base := w.heap.size) (ok := fun k_ => (((True ∧ some k_ ≠ (.slice Ao9 t673.length co9 : Value).ownBlock) ∧ some k_ ≠ (.slice Ao14 t680.length co14 : Value).ownBlock) ∧ some k_ ≠ (.slice Ao16 t685.length co16 : Value).ownBlock)) (n := t692.length) (c := co22) ?_).2.2; exact (by (with_reducible repeat (first | apply Kd.za9 | apply Kd.zaa | apply Kd.zac)); exact (Kd.zak (Kd.R_far (p := ⟨gb696, 2, none⟩) (Kd.R_far (p := ⟨gb696, 1, none⟩) (Kd.R_far (p := ⟨gb696, 0, none⟩) (Kd.zas HO694.out BK696.out (by decide)) (fun _ hk => hk.2) (.int .i64 t688)) (fun _ hk => hk.2) (.slice Ao21 t689.length co21)) (fun _ hk => hk.2) (.slice Ao22 t692.length co22)) (fun _ h_ => h_.1)))); (case side4 => exact (Kd.R_reads' HO694.out).2.1); (case side5 => refine (Kd.R_reads' (e := 117) (base := w.heap.size) (ok := fun k_ => (True ∧ some k_ ≠ (.slice Ao21 t689.length co21 : Value).ownBlock)) (n := t677.length) (c := co13) ?_).2.2; exact (by (with_reducible repeat (first | apply Kd.za9 | apply Kd.zaa | apply Kd.zac)); exact (Kd.zak (Kd.R_far (p := ⟨gb696, 2, none⟩) (Kd.R_far (p := ⟨gb696, 1, none⟩) (Kd.R_far (p := ⟨gb696, 0, none⟩) (Kd.zas HO679.out BK696.out (by decide)) (fun _ hk => hk.2) (.int .i64 t688)) (fun _ hk => hk.2) (.slice Ao21 t689.length co21)) (fun _ hk => hk.2) (.slice Ao22 t692.length co22)) (fun _ h_ => h_.1)))); (case side6 => exact (Kd.R_reads' HO679.out).2.1); (case side7 => refine (Kd.R_reads' (e := 3) (base := w.heap.size) (ok := fun k_ => (((True ∧ some k_ ≠ (.slice Ao9 t673.length co9 : Value).ownBlock) ∧ some k_ ≠ (.slice Ao16 t685.length co16 : Value).ownBlock) ∧ some k_ ≠ (.slice Ao22 t692.length co22 : Value).ownBlock)) (n := t680.length) (c := co14) ?_).2.2; exact (by (with_reducible repeat (first | apply Kd.za9 | apply Kd.zaa | apply Kd.zac)); exact (Kd.zak (Kd.R_far (p := ⟨gb696, 2, none⟩) (Kd.R_far (p := ⟨gb696, 1, none⟩) (Kd.R_far (p := ⟨gb696, 0, none⟩) (Kd.zas HO682.out BK696.out (by decide)) (fun _ hk => hk.2) (.int .i64 t688)) (fun _ hk => hk.2) (.slice Ao21 t689.length co21)) (fun _ hk => hk.2) (.slice Ao22 t692.length co22)) (fun _ h_ => h_.1)))); (case side8 => exact (Kd.R_reads' HO682.out).2.1); rintro e w32 ⟨rfl, hb⟩; refine ⟨_, rfl, ?_⟩; have n0_ := Aside0.mk (Kd.zal (by (with_reducible repeat (first | apply Kd.za9 | apply Kd.zaa | apply Kd.zac)); exact (Kd.zak (Kd.R_far (p := ⟨gb696, 2, none⟩) (Kd.R_far (p := ⟨gb696, 1, none⟩) (Kd.R_far (p := ⟨gb696, 0, none⟩) (Kd.zas HO675.out BK696.out (by decide)) (fun _ hk => hk.2) (.int .i64 t688)) (fun _ hk => hk.2) (.slice Ao21 t689.length co21)) (fun _ hk => hk.2) (.slice Ao22 t692.length co22)) (fun _ h_ => h_.1))) hb); have n1_ := Aside0.mk (Kd.zal (by (with_reducible repeat (first | apply Kd.za9 | apply Kd.zaa | apply Kd.zac)); exact (Kd.zak (Kd.R_far (p := ⟨gb696, 2, none⟩) (Kd.R_far (p := ⟨gb696, 1, none⟩) (Kd.R_far (p := ⟨gb696, 0, none⟩) (Kd.zas HO679.out BK696.out (by decide)) (fun _ hk => hk.2) (.int .i64 t688)) (fun _ hk => hk.2) (.slice Ao21 t689.length co21)) (fun _ hk => hk.2) (.slice Ao22 t692.length co22)) (fun _ h_ => h_.1))) hb); have n2_ := Aside0.mk (Kd.zal (by (with_reducible repeat (first | apply Kd.za9 | apply Kd.zaa | apply Kd.zac)); exact (Kd.zak (Kd.R_far (p := ⟨gb696, 2, none⟩) (Kd.R_far (p := ⟨gb696, 1, none⟩) (Kd.R_far (p := ⟨gb696, 0, none⟩) (Kd.zas HO682.out BK696.out (by decide)) (fun _ hk => hk.2) (.int .i64 t688)) (fun _ hk => hk.2) (.slice Ao21 t689.length co21)) (fun _ hk => hk.2) (.slice Ao22 t692.length co22)) (fun _ h_ => h_.1))) hb); have n3_ := Aside0.mk (Kd.zal (by (with_reducible repeat (first | apply Kd.za9 | apply Kd.zaa | apply Kd.zac)); exact (Kd.zak (Kd.R_far (p := ⟨gb696, 2, none⟩) (Kd.R_far (p := ⟨gb696, 1, none⟩) (Kd.R_far (p := ⟨gb696, 0, none⟩) (Kd.zas HO687.out BK696.out (by decide)) (fun _ hk => hk.2) (.int .i64 t688)) (fun _ hk => hk.2) (.slice Ao21 t689.length co21)) (fun _ hk => hk.2) (.slice Ao22 t692.length co22)) (fun _ h_ => h_.1))) hb); have n4_ := Aside0.mk (Kd.zal (by (with_reducible repeat (first | apply Kd.za9 | apply Kd.zaa | apply Kd.zac)); exact (Kd.zak (Kd.R_far (p := ⟨gb696, 2, none⟩) (Kd.R_far (p := ⟨gb696, 1, none⟩) (Kd.R_far (p := ⟨gb696, 0, none⟩) (Kd.zas HO691.out BK696.out (by decide)) (fun _ hk => hk.2) (.int .i64 t688)) (fun _ hk => hk.2) (.slice Ao21 t689.length co21)) (fun _ hk => hk.2) (.slice Ao22 t692.length co22)) (fun _ h_ => h_.1))) hb); have n5_ := Aside0.mk (Kd.zal (by (with_reducible repeat (first | apply Kd.za9 | apply Kd.zaa | apply Kd.zac)); exact (Kd.zak (Kd.R_far (p := ⟨gb696, 2, none⟩) (Kd.R_far (p := ⟨gb696, 1, none⟩) (Kd.R_far (p := ⟨gb696, 0, none⟩) (Kd.zas HO694.out BK696.out (by decide)) (fun _ hk => hk.2) (.int .i64 t688)) (fun _ hk => hk.2) (.slice Ao21 t689.length co21)) (fun _ hk => hk.2) (.slice Ao22 t692.length co22)) (fun _ h_ => h_.1))) hb); have n6_ := Aside0.mk (zae (g := gb684) (o := .cells #[.int .i64 t676, .slice Ao13 t677.length co13, .slice Ao14 t680.length co14] 36 (0, 0)) (by (with_reducible repeat (first | refine za5 ?_ _ | refine za7 ?_ | refine za6 ?_ _)); refine zb1 ?_ NB684_696.out _; (with_reducible repeat (first | refine za5 ?_ _ | refine za7 ?_ | refine za6 ?_ _)); refine zb1 ?_ NB684_696.out _; (with_reducible repeat (first | refine za5 ?_ _ | refine za7 ?_ | refine za6 ?_ _)); refine zb1 ?_ NB684_696.out _; (with_reducible repeat (first | refine za5 ?_ _ | refine za7 ?_ | refine za6 ?_ _)); exact BK684.out) hb); have n7_ := Aside0.mk (zae (g := gb696) (o := .cells #[.int .i64 t688, .slice Ao21 t689.length co21, .slice Ao22 t692.length co22] 36 (0, 0)) (by (with_reducible repeat (first | refine za5 ?_ _ | refine za7 ?_ | refine za6 ?_ _)); refine zaw (cs := #[.int .i64 t688, .slice Ao21 t689.length co21, .slice none 0 0]) ?_ 2 _ rfl; (with_reducible repeat (first | refine za5 ?_ _ | refine za7 ?_ | refine za6 ?_ _)); refine zaw (cs := #[.int .i64 t688, .slice none 0 0, .slice none 0 0]) ?_ 1 _ rfl; (with_reducible repeat (first | refine za5 ?_ _ | refine za7 ?_ | refine za6 ?_ _)); refine zaw (cs := #[.int .i64 0, .slice none 0 0, .slice none 0 0]) ?_ 0 _ rfl; (with_reducible repeat (first | refine za5 ?_ _ | refine za7 ?_ | refine za6 ?_ _)); exact BK696.out) hb); have n8_ := Aside0.mk (zaf (by repeat (first | (with_reducible first | exact HB.out | apply za1 | apply za0 | apply za2 | refine za3 ?_ GE684.out | refine za3 ?_ GE696.out) | exact HB.out)) hb); clear HO675; clear HO679; clear HO682; clear HO687; clear HO691; clear HO694; clear BK684; clear BK696; clear HB; have HO675 := n0_; have HO679 := n1_; have HO682 := n2_; have HO687 := n3_; have HO691 := n4_; have HO694 := n5_; have BK684 := n6_; have BK696 := n7_; have HB := n8_; clear n0_ n1_ n2_ n3_ n4_ n5_ n6_ n7_ n8_; (try clear hb); (try clear hb2); (try clear hk); (try clear hi)))
        go_meet
        case rel => exact ⟨_, (true), (by first | rfl | (simp; done) | (simp [*]; done)), H', ⟨by first | omega | exact Nat.le_refl _⟩, ⟨by (with_reducible repeat (first | apply Kd.za9 | apply Kd.zaa | apply Kd.zac)); exact Kd.zak HO687.out (fun _ hk => ⟨hk.1.2, hk.2⟩)⟩, ⟨by (with_reducible repeat (first | apply Kd.za9 | apply Kd.zaa | apply Kd.zac)); exact Kd.zak HO679.out (fun _ hk => hk.2)⟩, ⟨by (with_reducible repeat (first | apply Kd.za9 | apply Kd.zaa | apply Kd.zac)); exact Kd.zak HO682.out (fun _ hk => ⟨hk.1.2, hk.2⟩)⟩, ⟨by (with_reducible repeat (first | apply Kd.za9 | apply Kd.zaa | apply Kd.zac)); exact Kd.zak HO691.out (fun _ hk => hk.2)⟩, ⟨by (with_reducible repeat (first | apply Kd.za9 | apply Kd.zaa | apply Kd.zac)); exact Kd.zak HO694.out (fun _ hk => ⟨hk.2, hk.1.2⟩)⟩, ⟨by (with_reducible repeat (first | refine za5 ?_ _ | refine za7 ?_ | refine za6 ?_ _)); exact BK684.out⟩, ⟨by (with_reducible repeat (first | refine za5 ?_ _ | refine za7 ?_ | refine za6 ?_ _)); exact BK696.out⟩, ⟨by repeat (first | (with_reducible first | exact HB.out | apply za1 | apply za0 | apply za2 | refine za3 ?_ GE684.out | refine za3 ?_ GE696.out) | exact HB.out)⟩⟩
    case rest =>
      clear HC7
      try clear c1
      try clear c2
      try clear c2b0
      try clear c2b1
      try clear p2
      try clear c3
      try clear c7
      try clear c19
      try clear c23
      try clear c24
      try clear c25
      try clear c28
      try clear c29
      try clear hcz12_0
      try clear hcz12_1
      try clear hcz12_2
      try clear hcz20_0
      try clear hcz20_1
      try clear hcz20_2
      try clear hcz26_0
      try clear hcz26_1
      try clear hcz26_2
      try clear hcz27_0
      try clear hcz27_1
      try clear hcz27_2
      try clear hcz30_0
      try clear hcz30_1
      try clear hcz30_2
      try clear hcz31_0
      try clear hcz31_1
      try clear hcz31_2
      try clear hfz12_0
      try clear hfz12_1
      try clear hfz12_2
      try clear hfz20_0
      try clear hfz20_1
      try clear hfz20_2
      try clear hfz26_0
      try clear hfz26_1
      try clear hfz26_2
      try clear hfz27_0
      try clear hfz27_1
      try clear hfz27_2
      try clear hfz30_0
      try clear hfz30_1
      try clear hfz30_2
      try clear hfz31_0
      try clear hfz31_1
      try clear hfz31_2
      obtain ⟨kq, x37_6, rfl, HA, HJ6, HO_5, HO_685001, HO_685002, HO_697001, HO_697002, BK684, BK696, HB⟩ := hcut
      cases kq with
      | zero => exact absurd HA.out (by simp [laws_FnExactSquaresPlan.j0])
      | succ kj6 =>
        have H := HA.out
        clear HA
        simp only [laws_FnExactSquaresPlan.j0] at H
        by_cases c33 : x37_6 = true
        · subst c33
          have H1 : (some false) = some r := by rw [if_pos rfl] at H; exact H
          clear H
          have H := H1
          clear H1
          obtain rfl := Option.some.inj H
          go_wp2
          go_ret
          exact ⟨by first | rfl | (simp [zai, zaj] <;> rfl) | (simp [*, zai, zaj] <;> rfl), by repeat (first | (with_reducible first | exact HB.out | apply za1 | apply za0 | apply za2 | refine za3 ?_ GE684.out | refine za3 ?_ GE696.out) | exact HB.out)⟩
        · replace c33 := Bool.eq_false_iff.mpr c33
          subst c33
          have H1 : ((laws_toIntS.f kj6 l0).bind fun t698 => ((laws_eqIntS.f kj6 t685 t698).bind fun t701 => (if t701 = true then ((laws_markIntS.f kj6 t685 1).bind fun bt702 => (if bt702.1 < 0 then (laws_FnExactSquaresPlan.j1 kj6 l0 t683 true t676 t677 t680 t688 t689 t692) else ((laws_eqPlan.f kj6 t688 t689 t692 t676 t677 t680).bind fun t704 => (if t704 = true then (laws_FnExactSquaresPlan.j1 kj6 l0 t683 (t695 != t683) t676 t677 t680 t688 t689 t692) else (laws_FnExactSquaresPlan.j1 kj6 l0 t683 true t676 t677 t680 t688 t689 t692))))) else (some false)))) = some r := by rw [if_neg (show ¬ (false = true) by decide)] at H; exact H
          clear H
          have H := H1
          clear H1
          replace H := Option.bind_eq_some_iff.mp H
          obtain ⟨t698, A340, H⟩ := H
          replace H : ((laws_eqIntS.f kj6 t685 t698).bind fun t701 => (if t701 = true then ((laws_markIntS.f kj6 t685 1).bind fun bt702 => (if bt702.1 < 0 then (laws_FnExactSquaresPlan.j1 kj6 l0 t683 true t676 t677 t680 t688 t689 t692) else ((laws_eqPlan.f kj6 t688 t689 t692 t676 t677 t680).bind fun t704 => (if t704 = true then (laws_FnExactSquaresPlan.j1 kj6 l0 t683 (t695 != t683) t676 t677 t680 t688 t689 t692) else (laws_FnExactSquaresPlan.j1 kj6 l0 t683 true t676 t677 t680 t688 t689 t692))))) else (some false))) = some r := H
          have A34 := Aside0.mk A340
          clear A340
          replace H := Option.bind_eq_some_iff.mp H
          obtain ⟨t701, A350, H⟩ := H
          replace H : (if t701 = true then ((laws_markIntS.f kj6 t685 1).bind fun bt702 => (if bt702.1 < 0 then (laws_FnExactSquaresPlan.j1 kj6 l0 t683 true t676 t677 t680 t688 t689 t692) else ((laws_eqPlan.f kj6 t688 t689 t692 t676 t677 t680).bind fun t704 => (if t704 = true then (laws_FnExactSquaresPlan.j1 kj6 l0 t683 (t695 != t683) t676 t677 t680 t688 t689 t692) else (laws_FnExactSquaresPlan.j1 kj6 l0 t683 true t676 t677 t680 t688 t689 t692))))) else (some false)) = some r := H
          have A35 := Aside0.mk A350
          clear A350
          by_cases c36 : t701 = true
          · subst c36
            have H1 : ((laws_markIntS.f kj6 t685 1).bind fun bt702 => (if bt702.1 < 0 then (laws_FnExactSquaresPlan.j1 kj6 l0 t683 true t676 t677 t680 t688 t689 t692) else ((laws_eqPlan.f kj6 t688 t689 t692 t676 t677 t680).bind fun t704 => (if t704 = true then (laws_FnExactSquaresPlan.j1 kj6 l0 t683 (t695 != t683) t676 t677 t680 t688 t689 t692) else (laws_FnExactSquaresPlan.j1 kj6 l0 t683 true t676 t677 t680 t688 t689 t692))))) = some r := by rw [if_pos rfl] at H; exact H
            clear H
            have H := H1
            clear H1
            replace H := Option.bind_eq_some_iff.mp H
            obtain ⟨⟨t702, t703⟩, A370, H⟩ := H
            replace H : (if t702 < 0 then (laws_FnExactSquaresPlan.j1 kj6 l0 t683 true t676 t677 t680 t688 t689 t692) else ((laws_eqPlan.f kj6 t688 t689 t692 t676 t677 t680).bind fun t704 => (if t704 = true then (laws_FnExactSquaresPlan.j1 kj6 l0 t683 (t695 != t683) t676 t677 t680 t688 t689 t692) else (laws_FnExactSquaresPlan.j1 kj6 l0 t683 true t676 t677 t680 t688 t689 t692)))) = some r := H
            have A37 := Aside0.mk A370
            clear A370
            have HC38 := Aside0.mk H
            clear H
            go_upto_region 12 with (first | ((with_reducible refine zah (f := 28) rfl ?_); refine zay (some 40) rfl rfl Try.func28 (by kernel_rfl) rfl #[.slice A0 l0.length c0] rfl (by (try simp only [List.map_toArray, List.map_cons, List.map_nil]); first | done | rfl | (simp only [List.length_drop, List.length_take]; rfl)) ?_; (with_reducible refine (laws_toIntS.calls kj6 _ _ l0 t698 _ ?side1 ?side2 A34.out).mono ?_); (case side1 => repeat (first | exact (Kd.zav HR0.out HB.out) | (with_reducible refine Kd.zar ?_ _) | (with_reducible refine Kd.zao ?_ _) | (with_reducible refine Kd.zau ?_))); (case side2 => exact HC0.out); rintro e w39 ⟨v699, rfl, ho0, hb⟩; refine ⟨_, rfl, ?_⟩; have n0_ := Aside0.mk (Kd.R_elder' (by (with_reducible repeat (first | apply Kd.za9 | apply Kd.zaa | apply Kd.zac)); exact HO_5.out) (Kd.R_base ho0) hb); have n1_ := Aside0.mk (Kd.zal (by (with_reducible repeat (first | apply Kd.za9 | apply Kd.zaa | apply Kd.zac)); exact HO_685001.out) hb); have n2_ := Aside0.mk (Kd.R_elder' (by (with_reducible repeat (first | apply Kd.za9 | apply Kd.zaa | apply Kd.zac)); exact HO_685002.out) (Kd.R_base ho0) hb); have n3_ := Aside0.mk (Kd.zal (by (with_reducible repeat (first | apply Kd.za9 | apply Kd.zaa | apply Kd.zac)); exact HO_697001.out) hb); have n4_ := Aside0.mk (Kd.R_elder' (by (with_reducible repeat (first | apply Kd.za9 | apply Kd.zaa | apply Kd.zac)); exact HO_697002.out) (Kd.R_base ho0) hb); have n5_ := Aside0.mk (Kd.R_lower (Kd.R_new' (Kd.R_new' (Kd.R_new' ho0 (Kd.R_lt (by (with_reducible repeat (first | apply Kd.za9 | apply Kd.zaa | apply Kd.zac)); exact HO_5.out))) (Kd.R_lt (by (with_reducible repeat (first | apply Kd.za9 | apply Kd.zaa | apply Kd.zac)); exact HO_685002.out))) (Kd.R_lt (by (with_reducible repeat (first | apply Kd.za9 | apply Kd.zaa | apply Kd.zac)); exact HO_697002.out))) (zad (by repeat (first | (with_reducible first | exact HB.out | apply za1 | apply za0 | apply za2 | refine za3 ?_ GE684.out | refine za3 ?_ GE696.out) | exact HB.out)))); have n6_ := Aside0.mk (zae (g := gb684) (o := .cells #[.int .i64 t676, .slice Ao13 t677.length co13, .slice Ao14 t680.length co14] 36 (0, 0)) (by (with_reducible repeat (first | refine za5 ?_ _ | refine za7 ?_ | refine za6 ?_ _)); exact BK684.out) hb); have n7_ := Aside0.mk (zae (g := gb696) (o := .cells #[.int .i64 t688, .slice Ao21 t689.length co21, .slice Ao22 t692.length co22] 36 (0, 0)) (by (with_reducible repeat (first | refine za5 ?_ _ | refine za7 ?_ | refine za6 ?_ _)); exact BK696.out) hb); have n8_ := Aside0.mk (zaf (by repeat (first | (with_reducible first | exact HB.out | apply za1 | apply za0 | apply za2 | refine za3 ?_ GE684.out | refine za3 ?_ GE696.out) | exact HB.out)) hb); clear HO_5; clear HO_685001; clear HO_685002; clear HO_697001; clear HO_697002; clear BK684; clear BK696; clear HB; have HO_5 := n0_; have HO_685001 := n1_; have HO_685002 := n2_; have HO_697001 := n3_; have HO_697002 := n4_; have HO700 := n5_; have BK684 := n6_; have BK696 := n7_; have HB := n8_; clear n0_ n1_ n2_ n3_ n4_ n5_ n6_ n7_ n8_; (try clear hb); (try clear hb2); (try clear hk); (try clear hi); (try clear ho0); obtain ⟨Ao40, co40, eo40⟩ := Kd.zax HO700.out; subst eo40) | ((with_reducible refine zah (f := 30) rfl ?_); refine zay (some 41) rfl rfl Try.func30 (by kernel_rfl) rfl #[.slice Ao16 t685.length co16, .slice Ao40 t698.length co40] rfl (by (try simp only [List.map_toArray, List.map_cons, List.map_nil]); first | done | rfl | (simp only [List.length_drop, List.length_take]; rfl)) ?_; (with_reducible refine (laws_eqIntS.calls kj6 _ _ t685 _ _ t698 true _ ?side1 ?side2 ?side3 ?side4 A35.out).mono ?_); (case side1 => repeat (first | exact (Kd.R_reads' HO_5.out).2.2 | (with_reducible refine Kd.zar ?_ _) | (with_reducible refine Kd.zao ?_ _) | (with_reducible refine Kd.zau ?_))); (case side2 => exact (Kd.R_reads' HO_5.out).2.1); (case side3 => repeat (first | exact (Kd.R_reads' HO700.out).2.2 | (with_reducible refine Kd.zar ?_ _) | (with_reducible refine Kd.zao ?_ _) | (with_reducible refine Kd.zau ?_))); (case side4 => exact (Kd.R_reads' HO700.out).2.1); rintro e w' ⟨rfl, ⟨nd, rfl⟩⟩; refine ⟨_, rfl, ?_⟩) | ((with_reducible refine zah (f := 31) rfl ?_); refine zay (some 45) rfl rfl Try.func31 (by kernel_rfl) rfl #[.slice Ao16 t685.length co16, .int .i64 1] rfl (by (try simp only [List.map_toArray, List.map_cons, List.map_nil]); first | done | rfl | (simp only [List.length_drop, List.length_take]; rfl)) ?_; (with_reducible refine (laws_markIntS.calls kj6 (fun k_ => some k_ = (.slice Ao16 t685.length co16 : Value).ownBlock) (.slice Ao16 t685.length co16) t685 1 t702 t703 w _ ?side1 ?side2 A37.out).mono ?_); (case side1 => repeat (first | (with_reducible first | exact HB.out | apply za1 | apply za0 | apply za2 | refine za3 ?_ GE684.out | refine za3 ?_ GE696.out) | exact HB.out)); (case side2 => exact Kd.R_tight rfl HO_5.out); rintro e w41 ⟨rfl, hy0, hb, hkp⟩; refine ⟨_, rfl, ?_⟩; have n0_ := Aside0.mk (Kd.R_reok rfl hy0 (fun k_ e_ => HO_5.out.1 k_ e_)); have n1_ := Aside0.mk (Kd.zak (ok' := fun k_ => some k_ ≠ (.slice Ao21 t689.length co21 : Value).ownBlock) (Kd.R_keptB ((Kd.R_apart' HO_685001.out (Kd.R_typed HO_5.out) (by decide))) hkp (fun k_ hk_ hs_ => (hk_.2) hs_)) (fun k_ hk_ => hk_.1.1)); have n2_ := Aside0.mk (Kd.zak (ok' := fun k_ => some k_ ≠ (.slice Ao16 t685.length co16 : Value).ownBlock ∧ some k_ ≠ (.slice Ao22 t692.length co22 : Value).ownBlock ∧ some k_ ≠ (.slice Ao40 t698.length co40 : Value).ownBlock) (Kd.R_keptB (HO_685002.out) hkp (fun k_ hk_ hs_ => (hk_.1.1) hs_)) (fun k_ hk_ => ⟨hk_.1.1.1, hk_.1.1.2, hk_.1.2⟩)); have n3_ := Aside0.mk (Kd.zak (ok' := fun k_ => some k_ ≠ (.slice Ao13 t677.length co13 : Value).ownBlock) (Kd.R_keptB ((Kd.R_apart' HO_697001.out (Kd.R_typed HO_5.out) (by decide))) hkp (fun k_ hk_ hs_ => (hk_.2) hs_)) (fun k_ hk_ => hk_.1.1)); have n4_ := Aside0.mk (Kd.zak (ok' := fun k_ => some k_ ≠ (.slice Ao16 t685.length co16 : Value).ownBlock ∧ some k_ ≠ (.slice Ao14 t680.length co14 : Value).ownBlock ∧ some k_ ≠ (.slice Ao40 t698.length co40 : Value).ownBlock) (Kd.R_keptB (HO_697002.out) hkp (fun k_ hk_ hs_ => (hk_.1.1) hs_)) (fun k_ hk_ => ⟨hk_.1.1.1, hk_.1.1.2, hk_.1.2⟩)); have n5_ := Aside0.mk (blk_kept (by (with_reducible repeat (first | refine za5 ?_ _ | refine za7 ?_ | refine za6 ?_ _)); exact BK684.out) hkp (fun hs_ => (fun e_ => (Kd.R_ne HO_5.out BK684.out (by decide)) e_) hs_)); have n6_ := Aside0.mk (blk_kept (by (with_reducible repeat (first | refine za5 ?_ _ | refine za7 ?_ | refine za6 ?_ _)); exact BK696.out) hkp (fun hs_ => (fun e_ => (Kd.R_ne HO_5.out BK696.out (by decide)) e_) hs_)); have n7_ := Aside0.mk (Kd.zak (ok' := fun k_ => some k_ ≠ (.slice Ao16 t685.length co16 : Value).ownBlock ∧ some k_ ≠ (.slice Ao14 t680.length co14 : Value).ownBlock ∧ some k_ ≠ (.slice Ao22 t692.length co22 : Value).ownBlock) (Kd.R_keptB (HO700.out) hkp (fun k_ hk_ hs_ => (hk_.1.1.2) hs_)) (fun k_ hk_ => ⟨hk_.1.1.1.2, hk_.1.1.2, hk_.1.2⟩)); have n8_ := Aside0.mk (hb); clear HO_5; clear HO_685001; clear HO_685002; clear HO_697001; clear HO_697002; clear BK684; clear BK696; clear HO700; clear HB; have HO_5 := n0_; have HO_685001 := n1_; have HO_685002 := n2_; have HO_697001 := n3_; have HO_697002 := n4_; have BK684 := n5_; have BK696 := n6_; have HO700 := n7_; have HB := n8_; clear n0_ n1_ n2_ n3_ n4_ n5_ n6_ n7_ n8_; (try clear hb); (try clear hkp); (try clear hy0)))
            (try simp only [Act.put, List.setIfInBounds_toArray, List.set_cons_zero, List.set_cons_succ])
            go_cut [58] (fun v58 wc => ∃ (kq : Nat) (x58_37 : Bool), v58 = .bool x58_37 ∧ Aside0 (laws_FnExactSquaresPlan.j1 kq l0 t683 x58_37 t676 t677 t680 t688 t689 t692 = some r) ∧ Aside0 (kq ≤ kj6) ∧ Aside0 (Kd.R k117 117 wc w.heap.size (fun k_ => some k_ ≠ ((.slice Ao21 t689.length co21) : Value).ownBlock) (.slice Ao13 t677.length co13) t677) ∧ Aside0 (Kd.R (Kd.int .i64) 3 wc w.heap.size (fun k_ => some k_ ≠ ((.slice Ao22 t692.length co22) : Value).ownBlock) (.slice Ao14 t680.length co14) t680) ∧ Aside0 (Kd.R k117 117 wc w.heap.size (fun k_ => some k_ ≠ ((.slice Ao13 t677.length co13) : Value).ownBlock) (.slice Ao21 t689.length co21) t689) ∧ Aside0 (Kd.R (Kd.int .i64) 3 wc w.heap.size (fun k_ => some k_ ≠ ((.slice Ao14 t680.length co14) : Value).ownBlock) (.slice Ao22 t692.length co22) t692) ∧ Aside0 (wc.heap[gb684]? = some (.cells #[.int .i64 t676, (.slice Ao13 t677.length co13), (.slice Ao14 t680.length co14)] 36 (0, 0))) ∧ Aside0 (wc.heap[gb696]? = some (.cells #[.int .i64 t688, (.slice Ao21 t689.length co21), (.slice Ao22 t692.length co22)] 36 (0, 0))) ∧ Aside0 (Below w.heap.size w wc))
            case first =>
              have H := HC38.out
              clear HC38
              by_cases c42 : t702 < 0
              · rw [if_pos c42] at H
                have c42b0 : decide (t702 < 0) = true := decide_eq_true c42
                clear c42
                (first | rw [c42b0] | (simp only [i64_w, i32_w]; rw [c42b0]) | skip)
                have H' := Aside0.mk H
                clear H
                go_wp2
                go_meet
                case rel => exact ⟨_, (true), (by first | rfl | (simp; done) | (simp [*]; done)), H', ⟨by have := HJ6.out; first | omega | exact Nat.le_refl _⟩, ⟨by (with_reducible repeat (first | apply Kd.za9 | apply Kd.zaa | apply Kd.zac)); exact HO_685001.out⟩, ⟨by (with_reducible repeat (first | apply Kd.za9 | apply Kd.zaa | apply Kd.zac)); exact Kd.zak HO_685002.out (fun _ hk => hk.2.1)⟩, ⟨by (with_reducible repeat (first | apply Kd.za9 | apply Kd.zaa | apply Kd.zac)); exact HO_697001.out⟩, ⟨by (with_reducible repeat (first | apply Kd.za9 | apply Kd.zaa | apply Kd.zac)); exact Kd.zak HO_697002.out (fun _ hk => hk.2.1)⟩, ⟨by (with_reducible repeat (first | refine za5 ?_ _ | refine za7 ?_ | refine za6 ?_ _)); exact BK684.out⟩, ⟨by (with_reducible repeat (first | refine za5 ?_ _ | refine za7 ?_ | refine za6 ?_ _)); exact BK696.out⟩, ⟨by repeat (first | (with_reducible first | exact HB.out | apply za1 | apply za0 | apply za2 | refine za3 ?_ GE684.out | refine za3 ?_ GE696.out) | exact HB.out)⟩⟩
              · rw [if_neg c42] at H
                have c42b0 : decide (t702 < 0) = false := decide_eq_false c42
                clear c42
                (first | rw [c42b0] | (simp only [i64_w, i32_w]; rw [c42b0]) | skip)
                replace H := Option.bind_eq_some_iff.mp H
                obtain ⟨t704, A430, H⟩ := H
                replace H : (if t704 = true then (laws_FnExactSquaresPlan.j1 kj6 l0 t683 (t695 != t683) t676 t677 t680 t688 t689 t692) else (laws_FnExactSquaresPlan.j1 kj6 l0 t683 true t676 t677 t680 t688 t689 t692)) = some r := H
                have A43 := Aside0.mk A430
                clear A430
                by_cases c44 : t704 = true
                · subst c44
                  have H1 : (laws_FnExactSquaresPlan.j1 kj6 l0 t683 (t695 != t683) t676 t677 t680 t688 t689 t692) = some r := by rw [if_pos rfl] at H; exact H
                  clear H
                  have H := H1
                  clear H1
                  have H' := Aside0.mk H
                  clear H
                  have hnb45 := NB696_684.out
                  have hnc45 := NB684_696.out
                  have hcz46_0 : w41.cell? ⟨gb696, 0, none⟩ = some (.int .i64 t688) := (za8 BK696.out 0).trans rfl
                  have hcz46_1 : w41.cell? ⟨gb696, 1, none⟩ = some (.slice Ao21 t689.length co21) := (za8 BK696.out 1).trans rfl
                  have hcz46_2 : w41.cell? ⟨gb696, 2, none⟩ = some (.slice Ao22 t692.length co22) := (za8 BK696.out 2).trans rfl
                  have hfz46_0 := za4 BK696.out 0
                  have hfz46_1 := za4 BK696.out 1
                  have hfz46_2 := za4 BK696.out 2
                  have hcz47_0 : w41.cell? ⟨gb684, 0, none⟩ = some (.int .i64 t676) := (za8 BK684.out 0).trans rfl
                  have hcz47_1 : w41.cell? ⟨gb684, 1, none⟩ = some (.slice Ao13 t677.length co13) := (za8 BK684.out 1).trans rfl
                  have hcz47_2 : w41.cell? ⟨gb684, 2, none⟩ = some (.slice Ao14 t680.length co14) := (za8 BK684.out 2).trans rfl
                  have hfz47_0 := za4 BK684.out 0
                  have hfz47_1 := za4 BK684.out 1
                  have hfz47_2 := za4 BK684.out 2
                  go_wp2_with (first | (go_at_call 23; (with_reducible refine (laws_eqPlan.calls kj6 t688 _ _ t689 _ _ t692 t676 _ _ t677 _ _ t680 true _ ?side1 ?side2 ?side3 ?side4 ?side5 ?side6 ?side7 ?side8 A43.out).mono ?_); (case side1 => repeat (first | exact (Kd.R_reads' HO_697001.out).2.2 | (with_reducible refine Kd.zar ?_ _) | (with_reducible refine Kd.zao ?_ _) | (with_reducible refine Kd.zau ?_))); (case side2 => exact (Kd.R_reads' HO_697001.out).2.1); (case side3 => repeat (first | exact (Kd.R_reads' HO_697002.out).2.2 | (with_reducible refine Kd.zar ?_ _) | (with_reducible refine Kd.zao ?_ _) | (with_reducible refine Kd.zau ?_))); (case side4 => exact (Kd.R_reads' HO_697002.out).2.1); (case side5 => repeat (first | exact (Kd.R_reads' HO_685001.out).2.2 | (with_reducible refine Kd.zar ?_ _) | (with_reducible refine Kd.zao ?_ _) | (with_reducible refine Kd.zau ?_))); (case side6 => exact (Kd.R_reads' HO_685001.out).2.1); (case side7 => repeat (first | exact (Kd.R_reads' HO_685002.out).2.2 | (with_reducible refine Kd.zar ?_ _) | (with_reducible refine Kd.zao ?_ _) | (with_reducible refine Kd.zau ?_))); (case side8 => exact (Kd.R_reads' HO_685002.out).2.1); rintro e w48 ⟨rfl, hb⟩; have n0_ := Aside0.mk (Kd.zal (by (with_reducible repeat (first | apply Kd.za9 | apply Kd.zaa | apply Kd.zac)); exact HO_5.out) hb); have n1_ := Aside0.mk (Kd.zal (by (with_reducible repeat (first | apply Kd.za9 | apply Kd.zaa | apply Kd.zac)); exact HO_685001.out) hb); have n2_ := Aside0.mk (Kd.zal (by (with_reducible repeat (first | apply Kd.za9 | apply Kd.zaa | apply Kd.zac)); exact HO_685002.out) hb); have n3_ := Aside0.mk (Kd.zal (by (with_reducible repeat (first | apply Kd.za9 | apply Kd.zaa | apply Kd.zac)); exact HO_697001.out) hb); have n4_ := Aside0.mk (Kd.zal (by (with_reducible repeat (first | apply Kd.za9 | apply Kd.zaa | apply Kd.zac)); exact HO_697002.out) hb); have n5_ := Aside0.mk (Kd.zal (by (with_reducible repeat (first | apply Kd.za9 | apply Kd.zaa | apply Kd.zac)); exact HO700.out) hb); have n6_ := Aside0.mk (zae (g := gb684) (o := .cells #[.int .i64 t676, .slice Ao13 t677.length co13, .slice Ao14 t680.length co14] 36 (0, 0)) (by (with_reducible repeat (first | refine za5 ?_ _ | refine za7 ?_ | refine za6 ?_ _)); exact BK684.out) hb); have n7_ := Aside0.mk (zae (g := gb696) (o := .cells #[.int .i64 t688, .slice Ao21 t689.length co21, .slice Ao22 t692.length co22] 36 (0, 0)) (by (with_reducible repeat (first | refine za5 ?_ _ | refine za7 ?_ | refine za6 ?_ _)); exact BK696.out) hb); have n8_ := Aside0.mk (zaf (by repeat (first | (with_reducible first | exact HB.out | apply za1 | apply za0 | apply za2 | refine za3 ?_ GE684.out | refine za3 ?_ GE696.out) | exact HB.out)) hb); clear HO_5; clear HO_685001; clear HO_685002; clear HO_697001; clear HO_697002; clear HO700; clear BK684; clear BK696; clear HB; have HO_5 := n0_; have HO_685001 := n1_; have HO_685002 := n2_; have HO_697001 := n3_; have HO_697002 := n4_; have HO700 := n5_; have BK684 := n6_; have BK696 := n7_; have HB := n8_; clear n0_ n1_ n2_ n3_ n4_ n5_ n6_ n7_ n8_; (try clear hb); (try clear hb2); (try clear hk); (try clear hi)))
                  go_meet
                  case rel => exact ⟨_, ((t695 != t683)), (by first | rfl | (simp; done) | (simp [*]; done)), H', ⟨by have := HJ6.out; first | omega | exact Nat.le_refl _⟩, ⟨by (with_reducible repeat (first | apply Kd.za9 | apply Kd.zaa | apply Kd.zac)); exact HO_685001.out⟩, ⟨by (with_reducible repeat (first | apply Kd.za9 | apply Kd.zaa | apply Kd.zac)); exact Kd.zak HO_685002.out (fun _ hk => hk.2.1)⟩, ⟨by (with_reducible repeat (first | apply Kd.za9 | apply Kd.zaa | apply Kd.zac)); exact HO_697001.out⟩, ⟨by (with_reducible repeat (first | apply Kd.za9 | apply Kd.zaa | apply Kd.zac)); exact Kd.zak HO_697002.out (fun _ hk => hk.2.1)⟩, ⟨by (with_reducible repeat (first | refine za5 ?_ _ | refine za7 ?_ | refine za6 ?_ _)); exact BK684.out⟩, ⟨by (with_reducible repeat (first | refine za5 ?_ _ | refine za7 ?_ | refine za6 ?_ _)); exact BK696.out⟩, ⟨by repeat (first | (with_reducible first | exact HB.out | apply za1 | apply za0 | apply za2 | refine za3 ?_ GE684.out | refine za3 ?_ GE696.out) | exact HB.out)⟩⟩
                · replace c44 := Bool.eq_false_iff.mpr c44
                  subst c44
                  have H1 : (laws_FnExactSquaresPlan.j1 kj6 l0 t683 true t676 t677 t680 t688 t689 t692) = some r := by rw [if_neg (show ¬ (false = true) by decide)] at H; exact H
                  clear H
                  have H := H1
                  clear H1
                  have H' := Aside0.mk H
                  clear H
                  have hnb49 := NB696_684.out
                  have hnc49 := NB684_696.out
                  have hcz50_0 : w41.cell? ⟨gb696, 0, none⟩ = some (.int .i64 t688) := (za8 BK696.out 0).trans rfl
                  have hcz50_1 : w41.cell? ⟨gb696, 1, none⟩ = some (.slice Ao21 t689.length co21) := (za8 BK696.out 1).trans rfl
                  have hcz50_2 : w41.cell? ⟨gb696, 2, none⟩ = some (.slice Ao22 t692.length co22) := (za8 BK696.out 2).trans rfl
                  have hfz50_0 := za4 BK696.out 0
                  have hfz50_1 := za4 BK696.out 1
                  have hfz50_2 := za4 BK696.out 2
                  have hcz51_0 : w41.cell? ⟨gb684, 0, none⟩ = some (.int .i64 t676) := (za8 BK684.out 0).trans rfl
                  have hcz51_1 : w41.cell? ⟨gb684, 1, none⟩ = some (.slice Ao13 t677.length co13) := (za8 BK684.out 1).trans rfl
                  have hcz51_2 : w41.cell? ⟨gb684, 2, none⟩ = some (.slice Ao14 t680.length co14) := (za8 BK684.out 2).trans rfl
                  have hfz51_0 := za4 BK684.out 0
                  have hfz51_1 := za4 BK684.out 1
                  have hfz51_2 := za4 BK684.out 2
                  go_wp2_with (first | (go_at_call 23; (with_reducible refine (laws_eqPlan.calls kj6 t688 _ _ t689 _ _ t692 t676 _ _ t677 _ _ t680 false _ ?side1 ?side2 ?side3 ?side4 ?side5 ?side6 ?side7 ?side8 A43.out).mono ?_); (case side1 => repeat (first | exact (Kd.R_reads' HO_697001.out).2.2 | (with_reducible refine Kd.zar ?_ _) | (with_reducible refine Kd.zao ?_ _) | (with_reducible refine Kd.zau ?_))); (case side2 => exact (Kd.R_reads' HO_697001.out).2.1); (case side3 => repeat (first | exact (Kd.R_reads' HO_697002.out).2.2 | (with_reducible refine Kd.zar ?_ _) | (with_reducible refine Kd.zao ?_ _) | (with_reducible refine Kd.zau ?_))); (case side4 => exact (Kd.R_reads' HO_697002.out).2.1); (case side5 => repeat (first | exact (Kd.R_reads' HO_685001.out).2.2 | (with_reducible refine Kd.zar ?_ _) | (with_reducible refine Kd.zao ?_ _) | (with_reducible refine Kd.zau ?_))); (case side6 => exact (Kd.R_reads' HO_685001.out).2.1); (case side7 => repeat (first | exact (Kd.R_reads' HO_685002.out).2.2 | (with_reducible refine Kd.zar ?_ _) | (with_reducible refine Kd.zao ?_ _) | (with_reducible refine Kd.zau ?_))); (case side8 => exact (Kd.R_reads' HO_685002.out).2.1); rintro e w52 ⟨rfl, hb⟩; have n0_ := Aside0.mk (Kd.zal (by (with_reducible repeat (first | apply Kd.za9 | apply Kd.zaa | apply Kd.zac)); exact HO_5.out) hb); have n1_ := Aside0.mk (Kd.zal (by (with_reducible repeat (first | apply Kd.za9 | apply Kd.zaa | apply Kd.zac)); exact HO_685001.out) hb); have n2_ := Aside0.mk (Kd.zal (by (with_reducible repeat (first | apply Kd.za9 | apply Kd.zaa | apply Kd.zac)); exact HO_685002.out) hb); have n3_ := Aside0.mk (Kd.zal (by (with_reducible repeat (first | apply Kd.za9 | apply Kd.zaa | apply Kd.zac)); exact HO_697001.out) hb); have n4_ := Aside0.mk (Kd.zal (by (with_reducible repeat (first | apply Kd.za9 | apply Kd.zaa | apply Kd.zac)); exact HO_697002.out) hb); have n5_ := Aside0.mk (Kd.zal (by (with_reducible repeat (first | apply Kd.za9 | apply Kd.zaa | apply Kd.zac)); exact HO700.out) hb); have n6_ := Aside0.mk (zae (g := gb684) (o := .cells #[.int .i64 t676, .slice Ao13 t677.length co13, .slice Ao14 t680.length co14] 36 (0, 0)) (by (with_reducible repeat (first | refine za5 ?_ _ | refine za7 ?_ | refine za6 ?_ _)); exact BK684.out) hb); have n7_ := Aside0.mk (zae (g := gb696) (o := .cells #[.int .i64 t688, .slice Ao21 t689.length co21, .slice Ao22 t692.length co22] 36 (0, 0)) (by (with_reducible repeat (first | refine za5 ?_ _ | refine za7 ?_ | refine za6 ?_ _)); exact BK696.out) hb); have n8_ := Aside0.mk (zaf (by repeat (first | (with_reducible first | exact HB.out | apply za1 | apply za0 | apply za2 | refine za3 ?_ GE684.out | refine za3 ?_ GE696.out) | exact HB.out)) hb); clear HO_5; clear HO_685001; clear HO_685002; clear HO_697001; clear HO_697002; clear HO700; clear BK684; clear BK696; clear HB; have HO_5 := n0_; have HO_685001 := n1_; have HO_685002 := n2_; have HO_697001 := n3_; have HO_697002 := n4_; have HO700 := n5_; have BK684 := n6_; have BK696 := n7_; have HB := n8_; clear n0_ n1_ n2_ n3_ n4_ n5_ n6_ n7_ n8_; (try clear hb); (try clear hb2); (try clear hk); (try clear hi)))
                  go_meet
                  case rel => exact ⟨_, (true), (by first | rfl | (simp; done) | (simp [*]; done)), H', ⟨by have := HJ6.out; first | omega | exact Nat.le_refl _⟩, ⟨by (with_reducible repeat (first | apply Kd.za9 | apply Kd.zaa | apply Kd.zac)); exact HO_685001.out⟩, ⟨by (with_reducible repeat (first | apply Kd.za9 | apply Kd.zaa | apply Kd.zac)); exact Kd.zak HO_685002.out (fun _ hk => hk.2.1)⟩, ⟨by (with_reducible repeat (first | apply Kd.za9 | apply Kd.zaa | apply Kd.zac)); exact HO_697001.out⟩, ⟨by (with_reducible repeat (first | apply Kd.za9 | apply Kd.zaa | apply Kd.zac)); exact Kd.zak HO_697002.out (fun _ hk => hk.2.1)⟩, ⟨by (with_reducible repeat (first | refine za5 ?_ _ | refine za7 ?_ | refine za6 ?_ _)); exact BK684.out⟩, ⟨by (with_reducible repeat (first | refine za5 ?_ _ | refine za7 ?_ | refine za6 ?_ _)); exact BK696.out⟩, ⟨by repeat (first | (with_reducible first | exact HB.out | apply za1 | apply za0 | apply za2 | refine za3 ?_ GE684.out | refine za3 ?_ GE696.out) | exact HB.out)⟩⟩
            case rest =>
              clear HC38
              try clear c1
              try clear c2
              try clear c2b0
              try clear c2b1
              try clear p2
              try clear c3
              try clear c4
              try clear c7
              try clear c19
              try clear c23
              try clear c24
              try clear c25
              try clear c28
              try clear c29
              try clear c30
              try clear c31
              try clear c33
              try clear c36
              try clear c37
              try clear c38
              try clear c42
              try clear c42b0
              try clear c44
              try clear c45
              try clear c49
              try clear hcz12_0
              try clear hcz12_1
              try clear hcz12_2
              try clear hcz20_0
              try clear hcz20_1
              try clear hcz20_2
              try clear hcz26_0
              try clear hcz26_1
              try clear hcz26_2
              try clear hcz27_0
              try clear hcz27_1
              try clear hcz27_2
              try clear hcz30_0
              try clear hcz30_1
              try clear hcz30_2
              try clear hcz31_0
              try clear hcz31_1
              try clear hcz31_2
              try clear hcz46_0
              try clear hcz46_1
              try clear hcz46_2
              try clear hcz47_0
              try clear hcz47_1
              try clear hcz47_2
              try clear hcz50_0
              try clear hcz50_1
              try clear hcz50_2
              try clear hcz51_0
              try clear hcz51_1
              try clear hcz51_2
              try clear hfz12_0
              try clear hfz12_1
              try clear hfz12_2
              try clear hfz20_0
              try clear hfz20_1
              try clear hfz20_2
              try clear hfz26_0
              try clear hfz26_1
              try clear hfz26_2
              try clear hfz27_0
              try clear hfz27_1
              try clear hfz27_2
              try clear hfz30_0
              try clear hfz30_1
              try clear hfz30_2
              try clear hfz31_0
              try clear hfz31_1
              try clear hfz31_2
              try clear hfz46_0
              try clear hfz46_1
              try clear hfz46_2
              try clear hfz47_0
              try clear hfz47_1
              try clear hfz47_2
              try clear hfz50_0
              try clear hfz50_1
              try clear hfz50_2
              try clear hfz51_0
              try clear hfz51_1
              try clear hfz51_2
              try clear p2
              obtain ⟨kq, x58_37, rfl, HA, HJ37, HO_685001, HO_685002, HO_697001, HO_697002, BK684, BK696, HB⟩ := hcut
              cases kq with
              | zero => exact absurd HA.out (by simp [laws_FnExactSquaresPlan.j1])
              | succ kj37 =>
                have H := HA.out
                clear HA
                simp only [laws_FnExactSquaresPlan.j1] at H
                by_cases c53 : x58_37 = true
                · subst c53
                  have H1 : (some false) = some r := by rw [if_pos rfl] at H; exact H
                  clear H
                  have H := H1
                  clear H1
                  obtain rfl := Option.some.inj H
                  go_wp2
                  go_ret
                  exact ⟨by first | rfl | (simp [zai, zaj] <;> rfl) | (simp [*, zai, zaj] <;> rfl), by repeat (first | (with_reducible first | exact HB.out | apply za1 | apply za0 | apply za2 | refine za3 ?_ GE684.out | refine za3 ?_ GE696.out) | exact HB.out)⟩
                · replace c53 := Bool.eq_false_iff.mpr c53
                  subst c53
                  have H1 : ((laws_markPlan.f kj37 t688 t689 t692 1).bind fun bt705 => ((laws_heldPlan.f kj37 t688 bt705.2.1 bt705.2.2 1).bind fun t708 => (if t708 < 0 then (some false) else (if t708 = bt705.1 then ((laws_toIntS.f kj37 l0).bind fun t709 => ((impl_SquaresPlan.f kj37 t709).bind fun bt712 => ((laws_eqPlan.f kj37 bt712.1 bt712.2.1 bt712.2.2.1 t676 t677 t680).bind fun t721 => (if t721 = true then (laws_FnExactSquaresPlan.j2 kj37 bt705.1 (bt712.2.2.2 != t683) t688 bt705.2.1 bt705.2.2) else (laws_FnExactSquaresPlan.j2 kj37 bt705.1 true t688 bt705.2.1 bt705.2.2))))) else (some false))))) = some r := by rw [if_neg (show ¬ (false = true) by decide)] at H; exact H
                  clear H
                  have H := H1
                  clear H1
                  replace H := Option.bind_eq_some_iff.mp H
                  obtain ⟨⟨t705, t706, t707⟩, A540, H⟩ := H
                  replace H : ((laws_heldPlan.f kj37 t688 t706 t707 1).bind fun t708 => (if t708 < 0 then (some false) else (if t708 = t705 then ((laws_toIntS.f kj37 l0).bind fun t709 => ((impl_SquaresPlan.f kj37 t709).bind fun bt712 => ((laws_eqPlan.f kj37 bt712.1 bt712.2.1 bt712.2.2.1 t676 t677 t680).bind fun t721 => (if t721 = true then (laws_FnExactSquaresPlan.j2 kj37 t705 (bt712.2.2.2 != t683) t688 t706 t707) else (laws_FnExactSquaresPlan.j2 kj37 t705 true t688 t706 t707))))) else (some false)))) = some r := H
                  have A54 := Aside0.mk A540
                  clear A540
                  replace H := Option.bind_eq_some_iff.mp H
                  obtain ⟨t708, A550, H⟩ := H
                  replace H : (if t708 < 0 then (some false) else (if t708 = t705 then ((laws_toIntS.f kj37 l0).bind fun t709 => ((impl_SquaresPlan.f kj37 t709).bind fun bt712 => ((laws_eqPlan.f kj37 bt712.1 bt712.2.1 bt712.2.2.1 t676 t677 t680).bind fun t721 => (if t721 = true then (laws_FnExactSquaresPlan.j2 kj37 t705 (bt712.2.2.2 != t683) t688 t706 t707) else (laws_FnExactSquaresPlan.j2 kj37 t705 true t688 t706 t707))))) else (some false))) = some r := H
                  have A55 := Aside0.mk A550
                  clear A550
                  by_cases c56 : t708 < 0
                  · rw [if_pos c56] at H
                    have c56b0 : decide (t708 < 0) = true := decide_eq_true c56
                    clear c56
                    obtain rfl := Option.some.inj H
                    have hnb57 := NB696_684.out
                    have hnc57 := NB684_696.out
                    have hcz58_0 : wc.cell? ⟨gb696, 0, none⟩ = some (.int .i64 t688) := (za8 BK696.out 0).trans rfl
                    have hcz58_1 : wc.cell? ⟨gb696, 1, none⟩ = some (.slice Ao21 t689.length co21) := (za8 BK696.out 1).trans rfl
                    have hcz58_2 : wc.cell? ⟨gb696, 2, none⟩ = some (.slice Ao22 t692.length co22) := (za8 BK696.out 2).trans rfl
                    have hfz58_0 := za4 BK696.out 0
                    have hfz58_1 := za4 BK696.out 1
                    have hfz58_2 := za4 BK696.out 2
                    go_wp2_with (first | ((with_reducible refine zah (f := 25) rfl ?_); refine zay (some 61) rfl rfl Try.func25 (by kernel_rfl) rfl #[.agg #[.int .i64 t688, .slice Ao21 t689.length co21, .slice Ao22 t692.length co22], .int .i64 1] rfl (by (try simp only [List.map_toArray, List.map_cons, List.map_nil]); first | done | rfl | (simp only [List.length_drop, List.length_take]; rfl)) ?_; (with_reducible refine (laws_markPlan.calls kj37 t688 (fun k_ => some k_ = (.slice Ao21 t689.length co21 : Value).ownBlock) (.slice Ao21 t689.length co21) t689 (fun k_ => some k_ = (.slice Ao22 t692.length co22 : Value).ownBlock) (.slice Ao22 t692.length co22) t692 1 t705 t706 t707 w _ ?side1 ?side2 ?side3 A54.out).mono ?_); (case side1 => repeat (first | (with_reducible first | exact HB.out | apply za1 | apply za0 | apply za2 | refine za3 ?_ GE684.out | refine za3 ?_ GE696.out) | exact HB.out)); (case side2 => exact Kd.R_tight rfl HO_697001.out); (case side3 => exact Kd.R_tight rfl HO_697002.out); rintro e w59 ⟨rfl, hy0, hy1, hb, hkp⟩; refine ⟨_, rfl, ?_⟩; have n0_ := Aside0.mk (Kd.zak (ok' := fun k_ => some k_ ≠ (.slice Ao21 t689.length co21 : Value).ownBlock) (Kd.R_keptB ((Kd.R_apart' HO_685001.out (Kd.R_typed HO_697002.out) (by decide))) hkp (fun k_ hk_ hs_ => Or.elim hs_ (fun e_ => (hk_.1) e_) (fun e_ => (hk_.2) e_))) (fun k_ hk_ => hk_.1.1)); have n1_ := Aside0.mk (Kd.zak (ok' := fun k_ => some k_ ≠ (.slice Ao22 t692.length co22 : Value).ownBlock) (Kd.R_keptB ((Kd.R_apart' HO_685002.out (Kd.R_typed HO_697001.out) (by decide))) hkp (fun k_ hk_ hs_ => Or.elim hs_ (fun e_ => (hk_.2) e_) (fun e_ => (hk_.1) e_))) (fun k_ hk_ => hk_.1.1)); have n2_ := Aside0.mk (Kd.R_reok rfl hy0 (fun k_ e_ => HO_697001.out.1 k_ e_)); have n3_ := Aside0.mk (Kd.R_reok rfl hy1 (fun k_ e_ => HO_697002.out.1 k_ e_)); have n4_ := Aside0.mk (blk_kept (by (with_reducible repeat (first | refine za5 ?_ _ | refine za7 ?_ | refine za6 ?_ _)); exact BK684.out) hkp (fun hs_ => Or.elim hs_ (fun e_ => (fun e_ => (Kd.R_ne HO_697001.out BK684.out (by decide)) e_) e_) (fun e_ => (fun e_ => (Kd.R_ne HO_697002.out BK684.out (by decide)) e_) e_))); have n5_ := Aside0.mk (blk_kept (by (with_reducible repeat (first | refine za5 ?_ _ | refine za7 ?_ | refine za6 ?_ _)); exact BK696.out) hkp (fun hs_ => Or.elim hs_ (fun e_ => (fun e_ => (Kd.R_ne HO_697001.out BK696.out (by decide)) e_) e_) (fun e_ => (fun e_ => (Kd.R_ne HO_697002.out BK696.out (by decide)) e_) e_))); have n6_ := Aside0.mk (hb); clear HO_685001; clear HO_685002; clear HO_697001; clear HO_697002; clear BK684; clear BK696; clear HB; have HO_685001 := n0_; have HO_685002 := n1_; have HO_697001 := n2_; have HO_697002 := n3_; have BK684 := n4_; have BK696 := n5_; have HB := n6_; clear n0_ n1_ n2_ n3_ n4_ n5_ n6_; (try clear hb); (try clear hkp); (try clear hy0); (try clear hy1); have hcz60_0 : w59.cell? ⟨gb696, 0, none⟩ = some (.int .i64 t688) := (za8 BK696.out 0).trans rfl; have hcz60_1 : w59.cell? ⟨gb696, 1, none⟩ = some (.slice Ao21 t689.length co21) := (za8 BK696.out 1).trans rfl; have hcz60_2 : w59.cell? ⟨gb696, 2, none⟩ = some (.slice Ao22 t692.length co22) := (za8 BK696.out 2).trans rfl; have hfz60_0 := za4 BK696.out 0; have hfz60_1 := za4 BK696.out 1; have hfz60_2 := za4 BK696.out 2) | ((with_reducible refine zah (f := 26) rfl ?_); refine zay (some 64) rfl rfl Try.func26 (by kernel_rfl) rfl #[.agg #[.int .i64 t688, .slice Ao21 t706.length co21, .slice Ao22 t707.length co22], .int .i64 1] rfl (by (try simp only [List.map_toArray, List.map_cons, List.map_nil]); first | done | (rw [show t706.length = t689.length from (Kd.R_reads' HO_697001.out).1.symm, show t707.length = t692.length from (Kd.R_reads' HO_697002.out).1.symm] <;> rfl) | rfl | (simp only [List.length_drop, List.length_take]; rfl)) ?_; (with_reducible refine (laws_heldPlan.calls kj37 t688 _ _ t706 _ _ t707 1 t708 _ ?side1 ?side2 ?side3 ?side4 A55.out).mono ?_); (case side1 => repeat (first | exact (Kd.R_reads' HO_697001.out).2.2 | (with_reducible refine Kd.zar ?_ _) | (with_reducible refine Kd.zao ?_ _) | (with_reducible refine Kd.zau ?_))); (case side2 => rw [show t706.length = t689.length from (Kd.R_reads' HO_697001.out).1.symm]; exact (Kd.R_reads' HO_697001.out).2.1); (case side3 => repeat (first | exact (Kd.R_reads' HO_697002.out).2.2 | (with_reducible refine Kd.zar ?_ _) | (with_reducible refine Kd.zao ?_ _) | (with_reducible refine Kd.zau ?_))); (case side4 => rw [show t707.length = t692.length from (Kd.R_reads' HO_697002.out).1.symm]; exact (Kd.R_reads' HO_697002.out).2.1); rintro e w61 ⟨rfl, hb⟩; refine ⟨_, rfl, ?_⟩; have n0_ := Aside0.mk (Kd.zal (by (with_reducible repeat (first | apply Kd.za9 | apply Kd.zaa | apply Kd.zac)); exact HO_685001.out) hb); have n1_ := Aside0.mk (Kd.zal (by (with_reducible repeat (first | apply Kd.za9 | apply Kd.zaa | apply Kd.zac)); exact HO_685002.out) hb); have n2_ := Aside0.mk (Kd.zal (by (with_reducible repeat (first | apply Kd.za9 | apply Kd.zaa | apply Kd.zac)); exact HO_697001.out) hb); have n3_ := Aside0.mk (Kd.zal (by (with_reducible repeat (first | apply Kd.za9 | apply Kd.zaa | apply Kd.zac)); exact HO_697002.out) hb); have n4_ := Aside0.mk (zae (g := gb684) (o := .cells #[.int .i64 t676, .slice Ao13 t677.length co13, .slice Ao14 t680.length co14] 36 (0, 0)) (by (with_reducible repeat (first | refine za5 ?_ _ | refine za7 ?_ | refine za6 ?_ _)); exact BK684.out) hb); have n5_ := Aside0.mk (zae (g := gb696) (o := .cells #[.int .i64 t688, .slice Ao21 t689.length co21, .slice Ao22 t692.length co22] 36 (0, 0)) (by (with_reducible repeat (first | refine za5 ?_ _ | refine za7 ?_ | refine za6 ?_ _)); exact BK696.out) hb); have n6_ := Aside0.mk (zaf (by repeat (first | (with_reducible first | exact HB.out | apply za1 | apply za0 | apply za2 | refine za3 ?_ GE684.out | refine za3 ?_ GE696.out) | exact HB.out)) hb); clear HO_685001; clear HO_685002; clear HO_697001; clear HO_697002; clear BK684; clear BK696; clear HB; have HO_685001 := n0_; have HO_685002 := n1_; have HO_697001 := n2_; have HO_697002 := n3_; have BK684 := n4_; have BK696 := n5_; have HB := n6_; clear n0_ n1_ n2_ n3_ n4_ n5_ n6_; (try clear hb); (try clear hb2); (try clear hk); (try clear hi)))
                    go_ret
                    exact ⟨by first | rfl | (simp [zai, zaj] <;> rfl) | (simp [*, zai, zaj] <;> rfl), by repeat (first | (with_reducible first | exact HB.out | apply za1 | apply za0 | apply za2 | refine za3 ?_ GE684.out | refine za3 ?_ GE696.out) | exact HB.out)⟩
                  · rw [if_neg c56] at H
                    have c56b0 : decide (t708 < 0) = false := decide_eq_false c56
                    clear c56
                    by_cases c62 : t708 = t705
                    · rw [if_pos c62] at H
                      have c62b0 : (t708 == t705) = true := beq_iff_eq.mpr c62
                      have c62b1 : (t708 != t705) = false := bne_eq_false_iff_eq.mpr c62
                      clear c62
                      replace H := Option.bind_eq_some_iff.mp H
                      obtain ⟨t709, A630, H⟩ := H
                      replace H : ((impl_SquaresPlan.f kj37 t709).bind fun bt712 => ((laws_eqPlan.f kj37 bt712.1 bt712.2.1 bt712.2.2.1 t676 t677 t680).bind fun t721 => (if t721 = true then (laws_FnExactSquaresPlan.j2 kj37 t705 (bt712.2.2.2 != t683) t688 t706 t707) else (laws_FnExactSquaresPlan.j2 kj37 t705 true t688 t706 t707)))) = some r := H
                      have A63 := Aside0.mk A630
                      clear A630
                      replace H := Option.bind_eq_some_iff.mp H
                      obtain ⟨⟨t712, t713, t716, t719⟩, A640, H⟩ := H
                      replace H : ((laws_eqPlan.f kj37 t712 t713 t716 t676 t677 t680).bind fun t721 => (if t721 = true then (laws_FnExactSquaresPlan.j2 kj37 t705 (t719 != t683) t688 t706 t707) else (laws_FnExactSquaresPlan.j2 kj37 t705 true t688 t706 t707))) = some r := H
                      have A64 := Aside0.mk A640
                      clear A640
                      have HC65 := Aside0.mk H
                      clear H
                      have hnb66 := NB696_684.out
                      have hnc66 := NB684_696.out
                      have hcz67_0 : wc.cell? ⟨gb696, 0, none⟩ = some (.int .i64 t688) := (za8 BK696.out 0).trans rfl
                      have hcz67_1 : wc.cell? ⟨gb696, 1, none⟩ = some (.slice Ao21 t689.length co21) := (za8 BK696.out 1).trans rfl
                      have hcz67_2 : wc.cell? ⟨gb696, 2, none⟩ = some (.slice Ao22 t692.length co22) := (za8 BK696.out 2).trans rfl
                      have hfz67_0 := za4 BK696.out 0
                      have hfz67_1 := za4 BK696.out 1
                      have hfz67_2 := za4 BK696.out 2
                      go_upto_region 23 with (first | ((with_reducible refine zah (f := 25) rfl ?_); refine zay (some 61) rfl rfl Try.func25 (by kernel_rfl) rfl #[.agg #[.int .i64 t688, .slice Ao21 t689.length co21, .slice Ao22 t692.length co22], .int .i64 1] rfl (by (try simp only [List.map_toArray, List.map_cons, List.map_nil]); first | done | rfl | (simp only [List.length_drop, List.length_take]; rfl)) ?_; (with_reducible refine (laws_markPlan.calls kj37 t688 (fun k_ => some k_ = (.slice Ao21 t689.length co21 : Value).ownBlock) (.slice Ao21 t689.length co21) t689 (fun k_ => some k_ = (.slice Ao22 t692.length co22 : Value).ownBlock) (.slice Ao22 t692.length co22) t692 1 t705 t706 t707 w _ ?side1 ?side2 ?side3 A54.out).mono ?_); (case side1 => repeat (first | (with_reducible first | exact HB.out | apply za1 | apply za0 | apply za2 | refine za3 ?_ GE684.out | refine za3 ?_ GE696.out) | exact HB.out)); (case side2 => exact Kd.R_tight rfl HO_697001.out); (case side3 => exact Kd.R_tight rfl HO_697002.out); rintro e w68 ⟨rfl, hy0, hy1, hb, hkp⟩; refine ⟨_, rfl, ?_⟩; have n0_ := Aside0.mk (Kd.zak (ok' := fun k_ => some k_ ≠ (.slice Ao21 t689.length co21 : Value).ownBlock) (Kd.R_keptB ((Kd.R_apart' HO_685001.out (Kd.R_typed HO_697002.out) (by decide))) hkp (fun k_ hk_ hs_ => Or.elim hs_ (fun e_ => (hk_.1) e_) (fun e_ => (hk_.2) e_))) (fun k_ hk_ => hk_.1.1)); have n1_ := Aside0.mk (Kd.zak (ok' := fun k_ => some k_ ≠ (.slice Ao22 t692.length co22 : Value).ownBlock) (Kd.R_keptB ((Kd.R_apart' HO_685002.out (Kd.R_typed HO_697001.out) (by decide))) hkp (fun k_ hk_ hs_ => Or.elim hs_ (fun e_ => (hk_.2) e_) (fun e_ => (hk_.1) e_))) (fun k_ hk_ => hk_.1.1)); have n2_ := Aside0.mk (Kd.R_reok rfl hy0 (fun k_ e_ => HO_697001.out.1 k_ e_)); have n3_ := Aside0.mk (Kd.R_reok rfl hy1 (fun k_ e_ => HO_697002.out.1 k_ e_)); have n4_ := Aside0.mk (blk_kept (by (with_reducible repeat (first | refine za5 ?_ _ | refine za7 ?_ | refine za6 ?_ _)); exact BK684.out) hkp (fun hs_ => Or.elim hs_ (fun e_ => (fun e_ => (Kd.R_ne HO_697001.out BK684.out (by decide)) e_) e_) (fun e_ => (fun e_ => (Kd.R_ne HO_697002.out BK684.out (by decide)) e_) e_))); have n5_ := Aside0.mk (blk_kept (by (with_reducible repeat (first | refine za5 ?_ _ | refine za7 ?_ | refine za6 ?_ _)); exact BK696.out) hkp (fun hs_ => Or.elim hs_ (fun e_ => (fun e_ => (Kd.R_ne HO_697001.out BK696.out (by decide)) e_) e_) (fun e_ => (fun e_ => (Kd.R_ne HO_697002.out BK696.out (by decide)) e_) e_))); have n6_ := Aside0.mk (hb); clear HO_685001; clear HO_685002; clear HO_697001; clear HO_697002; clear BK684; clear BK696; clear HB; have HO_685001 := n0_; have HO_685002 := n1_; have HO_697001 := n2_; have HO_697002 := n3_; have BK684 := n4_; have BK696 := n5_; have HB := n6_; clear n0_ n1_ n2_ n3_ n4_ n5_ n6_; (try clear hb); (try clear hkp); (try clear hy0); (try clear hy1); have hcz69_0 : w68.cell? ⟨gb696, 0, none⟩ = some (.int .i64 t688) := (za8 BK696.out 0).trans rfl; have hcz69_1 : w68.cell? ⟨gb696, 1, none⟩ = some (.slice Ao21 t689.length co21) := (za8 BK696.out 1).trans rfl; have hcz69_2 : w68.cell? ⟨gb696, 2, none⟩ = some (.slice Ao22 t692.length co22) := (za8 BK696.out 2).trans rfl; have hfz69_0 := za4 BK696.out 0; have hfz69_1 := za4 BK696.out 1; have hfz69_2 := za4 BK696.out 2) | ((with_reducible refine zah (f := 26) rfl ?_); refine zay (some 64) rfl rfl Try.func26 (by kernel_rfl) rfl #[.agg #[.int .i64 t688, .slice Ao21 t706.length co21, .slice Ao22 t707.length co22], .int .i64 1] rfl (by (try simp only [List.map_toArray, List.map_cons, List.map_nil]); first | done | (rw [show t706.length = t689.length from (Kd.R_reads' HO_697001.out).1.symm, show t707.length = t692.length from (Kd.R_reads' HO_697002.out).1.symm] <;> rfl) | rfl | (simp only [List.length_drop, List.length_take]; rfl)) ?_; (with_reducible refine (laws_heldPlan.calls kj37 t688 _ _ t706 _ _ t707 1 t708 _ ?side1 ?side2 ?side3 ?side4 A55.out).mono ?_); (case side1 => repeat (first | exact (Kd.R_reads' HO_697001.out).2.2 | (with_reducible refine Kd.zar ?_ _) | (with_reducible refine Kd.zao ?_ _) | (with_reducible refine Kd.zau ?_))); (case side2 => rw [show t706.length = t689.length from (Kd.R_reads' HO_697001.out).1.symm]; exact (Kd.R_reads' HO_697001.out).2.1); (case side3 => repeat (first | exact (Kd.R_reads' HO_697002.out).2.2 | (with_reducible refine Kd.zar ?_ _) | (with_reducible refine Kd.zao ?_ _) | (with_reducible refine Kd.zau ?_))); (case side4 => rw [show t707.length = t692.length from (Kd.R_reads' HO_697002.out).1.symm]; exact (Kd.R_reads' HO_697002.out).2.1); rintro e w70 ⟨rfl, hb⟩; refine ⟨_, rfl, ?_⟩; have n0_ := Aside0.mk (Kd.zal (by (with_reducible repeat (first | apply Kd.za9 | apply Kd.zaa | apply Kd.zac)); exact HO_685001.out) hb); have n1_ := Aside0.mk (Kd.zal (by (with_reducible repeat (first | apply Kd.za9 | apply Kd.zaa | apply Kd.zac)); exact HO_685002.out) hb); have n2_ := Aside0.mk (Kd.zal (by (with_reducible repeat (first | apply Kd.za9 | apply Kd.zaa | apply Kd.zac)); exact HO_697001.out) hb); have n3_ := Aside0.mk (Kd.zal (by (with_reducible repeat (first | apply Kd.za9 | apply Kd.zaa | apply Kd.zac)); exact HO_697002.out) hb); have n4_ := Aside0.mk (zae (g := gb684) (o := .cells #[.int .i64 t676, .slice Ao13 t677.length co13, .slice Ao14 t680.length co14] 36 (0, 0)) (by (with_reducible repeat (first | refine za5 ?_ _ | refine za7 ?_ | refine za6 ?_ _)); exact BK684.out) hb); have n5_ := Aside0.mk (zae (g := gb696) (o := .cells #[.int .i64 t688, .slice Ao21 t689.length co21, .slice Ao22 t692.length co22] 36 (0, 0)) (by (with_reducible repeat (first | refine za5 ?_ _ | refine za7 ?_ | refine za6 ?_ _)); exact BK696.out) hb); have n6_ := Aside0.mk (zaf (by repeat (first | (with_reducible first | exact HB.out | apply za1 | apply za0 | apply za2 | refine za3 ?_ GE684.out | refine za3 ?_ GE696.out) | exact HB.out)) hb); clear HO_685001; clear HO_685002; clear HO_697001; clear HO_697002; clear BK684; clear BK696; clear HB; have HO_685001 := n0_; have HO_685002 := n1_; have HO_697001 := n2_; have HO_697002 := n3_; have BK684 := n4_; have BK696 := n5_; have HB := n6_; clear n0_ n1_ n2_ n3_ n4_ n5_ n6_; (try clear hb); (try clear hb2); (try clear hk); (try clear hi)) | ((with_reducible refine zah (f := 28) rfl ?_); refine zay (some 72) rfl rfl Try.func28 (by kernel_rfl) rfl #[.slice A0 l0.length c0] rfl (by (try simp only [List.map_toArray, List.map_cons, List.map_nil]); first | done | rfl | (simp only [List.length_drop, List.length_take]; rfl)) ?_; (with_reducible refine (laws_toIntS.calls kj37 _ _ l0 t709 _ ?side1 ?side2 A63.out).mono ?_); (case side1 => repeat (first | exact (Kd.zav HR0.out HB.out) | (with_reducible refine Kd.zar ?_ _) | (with_reducible refine Kd.zao ?_ _) | (with_reducible refine Kd.zau ?_))); (case side2 => exact HC0.out); rintro e w71 ⟨v710, rfl, ho0, hb⟩; refine ⟨_, rfl, ?_⟩; have n0_ := Aside0.mk (Kd.zal (by (with_reducible repeat (first | apply Kd.za9 | apply Kd.zaa | apply Kd.zac)); exact HO_685001.out) hb); have n1_ := Aside0.mk (Kd.R_elder' (by (with_reducible repeat (first | apply Kd.za9 | apply Kd.zaa | apply Kd.zac)); exact HO_685002.out) (Kd.R_base ho0) hb); have n2_ := Aside0.mk (Kd.zal (by (with_reducible repeat (first | apply Kd.za9 | apply Kd.zaa | apply Kd.zac)); exact HO_697001.out) hb); have n3_ := Aside0.mk (Kd.R_elder' (by (with_reducible repeat (first | apply Kd.za9 | apply Kd.zaa | apply Kd.zac)); exact HO_697002.out) (Kd.R_base ho0) hb); have n4_ := Aside0.mk (Kd.R_lower (Kd.R_new' (Kd.R_new' ho0 (Kd.R_lt (by (with_reducible repeat (first | apply Kd.za9 | apply Kd.zaa | apply Kd.zac)); exact HO_685002.out))) (Kd.R_lt (by (with_reducible repeat (first | apply Kd.za9 | apply Kd.zaa | apply Kd.zac)); exact HO_697002.out))) (zad (by repeat (first | (with_reducible first | exact HB.out | apply za1 | apply za0 | apply za2 | refine za3 ?_ GE684.out | refine za3 ?_ GE696.out) | exact HB.out)))); have n5_ := Aside0.mk (zae (g := gb684) (o := .cells #[.int .i64 t676, .slice Ao13 t677.length co13, .slice Ao14 t680.length co14] 36 (0, 0)) (by (with_reducible repeat (first | refine za5 ?_ _ | refine za7 ?_ | refine za6 ?_ _)); exact BK684.out) hb); have n6_ := Aside0.mk (zae (g := gb696) (o := .cells #[.int .i64 t688, .slice Ao21 t689.length co21, .slice Ao22 t692.length co22] 36 (0, 0)) (by (with_reducible repeat (first | refine za5 ?_ _ | refine za7 ?_ | refine za6 ?_ _)); exact BK696.out) hb); have n7_ := Aside0.mk (zaf (by repeat (first | (with_reducible first | exact HB.out | apply za1 | apply za0 | apply za2 | refine za3 ?_ GE684.out | refine za3 ?_ GE696.out) | exact HB.out)) hb); clear HO_685001; clear HO_685002; clear HO_697001; clear HO_697002; clear BK684; clear BK696; clear HB; have HO_685001 := n0_; have HO_685002 := n1_; have HO_697001 := n2_; have HO_697002 := n3_; have HO711 := n4_; have BK684 := n5_; have BK696 := n6_; have HB := n7_; clear n0_ n1_ n2_ n3_ n4_ n5_ n6_ n7_; (try clear hb); (try clear hb2); (try clear hk); (try clear hi); (try clear ho0); obtain ⟨Ao72, co72, eo72⟩ := Kd.zax HO711.out; subst eo72) | ((with_reducible refine zah (f := 38) rfl ?_); refine zay (some 73) rfl rfl Try.func38 (by kernel_rfl) rfl #[.slice Ao72 t709.length co72] rfl (by (try simp only [List.map_toArray, List.map_cons, List.map_nil]); first | done | rfl | (simp only [List.length_drop, List.length_take]; rfl)) ?_; (with_reducible refine (impl_SquaresPlan.calls kj37 _ _ t709 t712 t713 t716 t719 _ ?side1 ?side2 A64.out).mono ?_); (case side1 => repeat (first | exact (Kd.R_reads' HO711.out).2.2 | (with_reducible refine Kd.zar ?_ _) | (with_reducible refine Kd.zao ?_ _) | (with_reducible refine Kd.zau ?_))); (case side2 => exact (Kd.R_reads' HO711.out).2.1); rintro e w73 ⟨v714, v717, rfl, ho0, ho1, hb⟩; refine ⟨_, rfl, ?_⟩; have n0_ := Aside0.mk (Kd.R_elder' (by (with_reducible repeat (first | apply Kd.za9 | apply Kd.zaa | apply Kd.zac)); exact HO_685001.out) (Kd.R_base ho0) hb); have n1_ := Aside0.mk (Kd.R_elder' (by (with_reducible repeat (first | apply Kd.za9 | apply Kd.zaa | apply Kd.zac)); exact HO_685002.out) (Kd.R_base ho1) hb); have n2_ := Aside0.mk (Kd.R_elder' (by (with_reducible repeat (first | apply Kd.za9 | apply Kd.zaa | apply Kd.zac)); exact HO_697001.out) (Kd.R_base ho0) hb); have n3_ := Aside0.mk (Kd.R_elder' (by (with_reducible repeat (first | apply Kd.za9 | apply Kd.zaa | apply Kd.zac)); exact HO_697002.out) (Kd.R_base ho1) hb); have n4_ := Aside0.mk (Kd.R_elder' (by (with_reducible repeat (first | apply Kd.za9 | apply Kd.zaa | apply Kd.zac)); exact HO711.out) (Kd.R_base ho1) hb); have n5_ := Aside0.mk (Kd.R_lower (Kd.R_new' (Kd.R_new' ho0 (Kd.R_lt (by (with_reducible repeat (first | apply Kd.za9 | apply Kd.zaa | apply Kd.zac)); exact HO_685001.out))) (Kd.R_lt (by (with_reducible repeat (first | apply Kd.za9 | apply Kd.zaa | apply Kd.zac)); exact HO_697001.out))) (zad (by repeat (first | (with_reducible first | exact HB.out | apply za1 | apply za0 | apply za2 | refine za3 ?_ GE684.out | refine za3 ?_ GE696.out) | exact HB.out)))); have n6_ := Aside0.mk (Kd.R_lower (Kd.R_new' (Kd.R_new' (Kd.R_new' ho1 (Kd.R_lt (by (with_reducible repeat (first | apply Kd.za9 | apply Kd.zaa | apply Kd.zac)); exact HO_685002.out))) (Kd.R_lt (by (with_reducible repeat (first | apply Kd.za9 | apply Kd.zaa | apply Kd.zac)); exact HO_697002.out))) (Kd.R_lt (by (with_reducible repeat (first | apply Kd.za9 | apply Kd.zaa | apply Kd.zac)); exact HO711.out))) (zad (by repeat (first | (with_reducible first | exact HB.out | apply za1 | apply za0 | apply za2 | refine za3 ?_ GE684.out | refine za3 ?_ GE696.out) | exact HB.out)))); have n7_ := Aside0.mk (zae (g := gb684) (o := .cells #[.int .i64 t676, .slice Ao13 t677.length co13, .slice Ao14 t680.length co14] 36 (0, 0)) (by (with_reducible repeat (first | refine za5 ?_ _ | refine za7 ?_ | refine za6 ?_ _)); exact BK684.out) hb); have n8_ := Aside0.mk (zae (g := gb696) (o := .cells #[.int .i64 t688, .slice Ao21 t689.length co21, .slice Ao22 t692.length co22] 36 (0, 0)) (by (with_reducible repeat (first | refine za5 ?_ _ | refine za7 ?_ | refine za6 ?_ _)); exact BK696.out) hb); have n9_ := Aside0.mk (zaf (by repeat (first | (with_reducible first | exact HB.out | apply za1 | apply za0 | apply za2 | refine za3 ?_ GE684.out | refine za3 ?_ GE696.out) | exact HB.out)) hb); clear HO_685001; clear HO_685002; clear HO_697001; clear HO_697002; clear HO711; clear BK684; clear BK696; clear HB; have HO_685001 := n0_; have HO_685002 := n1_; have HO_697001 := n2_; have HO_697002 := n3_; have HO711 := n4_; have HO715 := n5_; have HO718 := n6_; have BK684 := n7_; have BK696 := n8_; have HB := n9_; clear n0_ n1_ n2_ n3_ n4_ n5_ n6_ n7_ n8_ n9_; (try clear hb); (try clear hb2); (try clear hk); (try clear hi); (try clear ho0); (try clear ho1)) | ((with_reducible refine zaq (N := 11) rfl ?_); refine zan ?hg (N := 11) ?hd (cs := #[.int .i64 0, .slice none 0 0, .slice none 0 0]) (t := 36) ?hr ?_; (case hd => rfl); (case hg => rfl); (case hr => first | (go_simp; done) | (go_simp; rfl)); intro gb720 hg w74 hbox hb; have n0_ := Aside0.mk (Kd.zal (by (with_reducible repeat (first | apply Kd.za9 | apply Kd.zaa | apply Kd.zac)); exact HO_685001.out) hb); have n1_ := Aside0.mk (Kd.zal (by (with_reducible repeat (first | apply Kd.za9 | apply Kd.zaa | apply Kd.zac)); exact HO_685002.out) hb); have n2_ := Aside0.mk (Kd.zal (by (with_reducible repeat (first | apply Kd.za9 | apply Kd.zaa | apply Kd.zac)); exact HO_697001.out) hb); have n3_ := Aside0.mk (Kd.zal (by (with_reducible repeat (first | apply Kd.za9 | apply Kd.zaa | apply Kd.zac)); exact HO_697002.out) hb); have n4_ := Aside0.mk (Kd.zal (by (with_reducible repeat (first | apply Kd.za9 | apply Kd.zaa | apply Kd.zac)); exact HO711.out) hb); have n5_ := Aside0.mk (Kd.zal (by (with_reducible repeat (first | apply Kd.za9 | apply Kd.zaa | apply Kd.zac)); exact HO715.out) hb); have n6_ := Aside0.mk (Kd.zal (by (with_reducible repeat (first | apply Kd.za9 | apply Kd.zaa | apply Kd.zac)); exact HO718.out) hb); have n7_ := Aside0.mk (zae (g := gb684) (o := .cells #[.int .i64 t676, .slice Ao13 t677.length co13, .slice Ao14 t680.length co14] 36 (0, 0)) (by (with_reducible repeat (first | refine za5 ?_ _ | refine za7 ?_ | refine za6 ?_ _)); exact BK684.out) hb); have n8_ := Aside0.mk (zae (g := gb696) (o := .cells #[.int .i64 t688, .slice Ao21 t689.length co21, .slice Ao22 t692.length co22] 36 (0, 0)) (by (with_reducible repeat (first | refine za5 ?_ _ | refine za7 ?_ | refine za6 ?_ _)); exact BK696.out) hb); have n9_ := Aside0.mk (zaf (by repeat (first | (with_reducible first | exact HB.out | apply za1 | apply za0 | apply za2 | refine za3 ?_ GE684.out | refine za3 ?_ GE696.out) | exact HB.out)) hb); have n10_ := Aside0.mk (hbox); have n11_ := Aside0.mk ((by rw [hg]; exact (zad (by repeat (first | (with_reducible first | exact HB.out | apply za1 | apply za0 | apply za2 | refine za3 ?_ GE684.out | refine za3 ?_ GE696.out) | exact HB.out))) : w.heap.size ≤ gb720)); have n12_ := Aside0.mk ((by rw [hg]; exact (zad (by repeat (first | (with_reducible first | exact HB.out | apply za1 | apply za0 | apply za2 | refine za3 ?_ GE684.out | refine za3 ?_ GE696.out) | exact HB.out))) : w.heap.size ≤ gb720)); have n13_ := Aside0.mk ((by rw [hg]; exact Nat.ne_of_lt (zb0 (g := gb684) (o := .cells #[.int .i64 t676, .slice Ao13 t677.length co13, .slice Ao14 t680.length co14] 36 (0, 0)) (by (with_reducible repeat (first | refine za5 ?_ _ | refine za7 ?_ | refine za6 ?_ _)); exact BK684.out)) : gb684 ≠ gb720)); have n14_ := Aside0.mk ((by rw [hg]; exact Nat.ne_of_gt (zb0 (g := gb684) (o := .cells #[.int .i64 t676, .slice Ao13 t677.length co13, .slice Ao14 t680.length co14] 36 (0, 0)) (by (with_reducible repeat (first | refine za5 ?_ _ | refine za7 ?_ | refine za6 ?_ _)); exact BK684.out)) : gb720 ≠ gb684)); have n15_ := Aside0.mk ((by rw [hg]; exact Nat.ne_of_lt (zb0 (g := gb696) (o := .cells #[.int .i64 t688, .slice Ao21 t689.length co21, .slice Ao22 t692.length co22] 36 (0, 0)) (by (with_reducible repeat (first | refine za5 ?_ _ | refine za7 ?_ | refine za6 ?_ _)); exact BK696.out)) : gb696 ≠ gb720)); have n16_ := Aside0.mk ((by rw [hg]; exact Nat.ne_of_gt (zb0 (g := gb696) (o := .cells #[.int .i64 t688, .slice Ao21 t689.length co21, .slice Ao22 t692.length co22] 36 (0, 0)) (by (with_reducible repeat (first | refine za5 ?_ _ | refine za7 ?_ | refine za6 ?_ _)); exact BK696.out)) : gb720 ≠ gb696)); clear HO_685001; clear HO_685002; clear HO_697001; clear HO_697002; clear HO711; clear HO715; clear HO718; clear BK684; clear BK696; clear HB; have HO_685001 := n0_; have HO_685002 := n1_; have HO_697001 := n2_; have HO_697002 := n3_; have HO711 := n4_; have HO715 := n5_; have HO718 := n6_; have BK684 := n7_; have BK696 := n8_; have HB := n9_; have BK720 := n10_; have GW720 := n11_; have GE720 := n12_; have NB684_720 := n13_; have NB720_684 := n14_; have NB696_720 := n15_; have NB720_696 := n16_; clear n0_ n1_ n2_ n3_ n4_ n5_ n6_ n7_ n8_ n9_ n10_ n11_ n12_ n13_ n14_ n15_ n16_; clear hb hbox hg; have hnb75 := NB720_684.out; have hnc75 := NB684_720.out; have hnb76 := NB720_696.out; have hnc76 := NB696_720.out; have hcz77_0 : w74.cell? ⟨gb720, 0, none⟩ = some (.int .i64 0) := (za8 BK720.out 0).trans rfl; have hcz77_1 : w74.cell? ⟨gb720, 1, none⟩ = some (.slice none 0 0) := (za8 BK720.out 1).trans rfl; have hcz77_2 : w74.cell? ⟨gb720, 2, none⟩ = some (.slice none 0 0) := (za8 BK720.out 2).trans rfl; have hfz77_0 := za4 BK720.out 0; have hfz77_1 := za4 BK720.out 1; have hfz77_2 := za4 BK720.out 2; obtain ⟨Ao78, co78, eo78⟩ := Kd.zax HO715.out; subst eo78; obtain ⟨Ao79, co79, eo79⟩ := Kd.zax HO718.out; subst eo79))
                      (try simp only [Act.put, List.setIfInBounds_toArray, List.set_cons_zero, List.set_cons_succ])
                      go_cut [84] (fun v84 wc => ∃ (kq : Nat) (x84_64 : Bool), v84 = .bool x84_64 ∧ Aside0 (laws_FnExactSquaresPlan.j2 kq t705 x84_64 t688 t706 t707 = some r) ∧ Aside0 (kq ≤ kj37) ∧ Aside0 (Kd.R k117 117 wc w.heap.size (fun k_ => some k_ ≠ ((.slice Ao21 t689.length co21) : Value).ownBlock ∧ some k_ ≠ ((.slice Ao78 t713.length co78) : Value).ownBlock) (.slice Ao13 t677.length co13) t677) ∧ Aside0 (Kd.R (Kd.int .i64) 3 wc w.heap.size (fun k_ => some k_ ≠ ((.slice Ao22 t692.length co22) : Value).ownBlock ∧ some k_ ≠ ((.slice Ao79 t716.length co79) : Value).ownBlock) (.slice Ao14 t680.length co14) t680) ∧ Aside0 (Kd.R k117 117 wc w.heap.size (fun k_ => some k_ ≠ ((.slice Ao13 t677.length co13) : Value).ownBlock ∧ some k_ ≠ ((.slice Ao78 t713.length co78) : Value).ownBlock) (.slice Ao21 t689.length co21) t706) ∧ Aside0 (Kd.R (Kd.int .i64) 3 wc w.heap.size (fun k_ => some k_ ≠ ((.slice Ao14 t680.length co14) : Value).ownBlock ∧ some k_ ≠ ((.slice Ao79 t716.length co79) : Value).ownBlock) (.slice Ao22 t692.length co22) t707) ∧ Aside0 (Kd.R k117 117 wc w.heap.size (fun k_ => some k_ ≠ ((.slice Ao13 t677.length co13) : Value).ownBlock ∧ some k_ ≠ ((.slice Ao21 t689.length co21) : Value).ownBlock) (.slice Ao78 t713.length co78) t713) ∧ Aside0 (Kd.R (Kd.int .i64) 3 wc w.heap.size (fun k_ => some k_ ≠ ((.slice Ao14 t680.length co14) : Value).ownBlock ∧ some k_ ≠ ((.slice Ao22 t692.length co22) : Value).ownBlock) (.slice Ao79 t716.length co79) t716) ∧ Aside0 (wc.heap[gb684]? = some (.cells #[.int .i64 t676, (.slice Ao13 t677.length co13), (.slice Ao14 t680.length co14)] 36 (0, 0))) ∧ Aside0 (wc.heap[gb696]? = some (.cells #[.int .i64 t688, (.slice Ao21 t689.length co21), (.slice Ao22 t692.length co22)] 36 (0, 0))) ∧ Aside0 (wc.heap[gb720]? = some (.cells #[.int .i64 t712, (.slice Ao78 t713.length co78), (.slice Ao79 t716.length co79)] 36 (0, 0))) ∧ Aside0 (Below w.heap.size w wc))
                      case first =>
                        have H := HC65.out
                        clear HC65
                        replace H := Option.bind_eq_some_iff.mp H
                        obtain ⟨t721, A800, H⟩ := H
                        replace H : (if t721 = true then (laws_FnExactSquaresPlan.j2 kj37 t705 (t719 != t683) t688 t706 t707) else (laws_FnExactSquaresPlan.j2 kj37 t705 true t688 t706 t707)) = some r := H
                        have A80 := Aside0.mk A800
                        clear A800
                        by_cases c81 : t721 = true
                        · subst c81
                          have H1 : (laws_FnExactSquaresPlan.j2 kj37 t705 (t719 != t683) t688 t706 t707) = some r := by rw [if_pos rfl] at H; exact H
                          clear H
                          have H := H1
                          clear H1
                          have H' := Aside0.mk H
                          clear H
                          have hnb82 := NB720_684.out
                          have hnc82 := NB684_720.out
                          have hnb83 := NB720_696.out
                          have hnc83 := NB696_720.out
                          have hcz84_0 : w74.cell? ⟨gb720, 0, none⟩ = some (.int .i64 0) := (za8 BK720.out 0).trans rfl
                          have hcz84_1 : w74.cell? ⟨gb720, 1, none⟩ = some (.slice none 0 0) := (za8 BK720.out 1).trans rfl
                          have hcz84_2 : w74.cell? ⟨gb720, 2, none⟩ = some (.slice none 0 0) := (za8 BK720.out 2).trans rfl
                          have hfz84_0 := za4 BK720.out 0
                          have hfz84_1 := za4 BK720.out 1
                          have hfz84_2 := za4 BK720.out 2
                          have hnb85 := NB684_696.out
                          have hnc85 := NB696_684.out
                          have hcz86_0 : w74.cell? ⟨gb684, 0, none⟩ = some (.int .i64 t676) := (za8 BK684.out 0).trans rfl
                          have hcz86_1 : w74.cell? ⟨gb684, 1, none⟩ = some (.slice Ao13 t677.length co13) := (za8 BK684.out 1).trans rfl
                          have hcz86_2 : w74.cell? ⟨gb684, 2, none⟩ = some (.slice Ao14 t680.length co14) := (za8 BK684.out 2).trans rfl
                          have hfz86_0 := za4 BK684.out 0
                          have hfz86_1 := za4 BK684.out 1
                          have hfz86_2 := za4 BK684.out 2
                          go_wp2_with (first | ((with_reducible refine zah (f := 23) rfl ?_); refine zay (some 78) rfl rfl Try.func23 (by kernel_rfl) rfl #[.agg #[.int .i64 t712, .slice Ao78 t713.length co78, .slice Ao79 t716.length co79], .agg #[.int .i64 t676, .slice Ao13 t677.length co13, .slice Ao14 t680.length co14]] rfl (by (try simp only [List.map_toArray, List.map_cons, List.map_nil]); first | done | rfl | (simp only [List.length_drop, List.length_take]; rfl)) ?_; (with_reducible refine (laws_eqPlan.calls kj37 t712 _ _ t713 _ _ t716 t676 _ _ t677 _ _ t680 true _ ?side1 ?side2 ?side3 ?side4 ?side5 ?side6 ?side7 ?side8 A80.out).mono ?_); (case side1 => refine (Kd.R_reads' (e := 117) (base := w.heap.size) (ok := fun k_ => ((True ∧ some k_ ≠ (.slice Ao13 t677.length co13 : Value).ownBlock) ∧ some k_ ≠ (.slice Ao21 t689.length co21 : Value).ownBlock)) (n := t713.length) (c := co78) ?_).2.2; exact (by (with_reducible repeat (first | apply Kd.za9 | apply Kd.zaa | apply Kd.zac)); exact (Kd.zak (Kd.R_far (p := ⟨gb720, 2, none⟩) (Kd.R_far (p := ⟨gb720, 1, none⟩) (Kd.R_far (p := ⟨gb720, 0, none⟩) (Kd.zas HO715.out BK720.out (by decide)) (fun _ hk => hk.2) (.int .i64 t712)) (fun _ hk => hk.2) (.slice Ao78 t713.length co78)) (fun _ hk => hk.2) (.slice Ao79 t716.length co79)) (fun _ h_ => h_.1)))); (case side2 => exact (Kd.R_reads' HO715.out).2.1); (case side3 => refine (Kd.R_reads' (e := 3) (base := w.heap.size) (ok := fun k_ => (((True ∧ some k_ ≠ (.slice Ao14 t680.length co14 : Value).ownBlock) ∧ some k_ ≠ (.slice Ao22 t692.length co22 : Value).ownBlock) ∧ some k_ ≠ (.slice Ao72 t709.length co72 : Value).ownBlock)) (n := t716.length) (c := co79) ?_).2.2; exact (by (with_reducible repeat (first | apply Kd.za9 | apply Kd.zaa | apply Kd.zac)); exact (Kd.zak (Kd.R_far (p := ⟨gb720, 2, none⟩) (Kd.R_far (p := ⟨gb720, 1, none⟩) (Kd.R_far (p := ⟨gb720, 0, none⟩) (Kd.zas HO718.out BK720.out (by decide)) (fun _ hk => hk.2) (.int .i64 t712)) (fun _ hk => hk.2) (.slice Ao78 t713.length co78)) (fun _ hk => hk.2) (.slice Ao79 t716.length co79)) (fun _ h_ => h_.1)))); (case side4 => exact (Kd.R_reads' HO718.out).2.1); (case side5 => refine (Kd.R_reads' (e := 117) (base := w.heap.size) (ok := fun k_ => (some k_ ≠ (.slice Ao21 t689.length co21 : Value).ownBlock ∧ some k_ ≠ (.slice Ao78 t713.length co78 : Value).ownBlock)) (n := t677.length) (c := co13) ?_).2.2; exact (by (with_reducible repeat (first | apply Kd.za9 | apply Kd.zaa | apply Kd.zac)); exact (Kd.zak (Kd.R_far (p := ⟨gb720, 2, none⟩) (Kd.R_far (p := ⟨gb720, 1, none⟩) (Kd.R_far (p := ⟨gb720, 0, none⟩) (Kd.zas HO_685001.out BK720.out (by decide)) (fun _ hk => hk.2) (.int .i64 t712)) (fun _ hk => hk.2) (.slice Ao78 t713.length co78)) (fun _ hk => hk.2) (.slice Ao79 t716.length co79)) (fun _ h_ => h_.1)))); (case side6 => exact (Kd.R_reads' HO_685001.out).2.1); (case side7 => refine (Kd.R_reads' (e := 3) (base := w.heap.size) (ok := fun k_ => ((some k_ ≠ (.slice Ao22 t692.length co22 : Value).ownBlock ∧ some k_ ≠ (.slice Ao72 t709.length co72 : Value).ownBlock) ∧ some k_ ≠ (.slice Ao79 t716.length co79 : Value).ownBlock)) (n := t680.length) (c := co14) ?_).2.2; exact (by (with_reducible repeat (first | apply Kd.za9 | apply Kd.zaa | apply Kd.zac)); exact (Kd.zak (Kd.R_far (p := ⟨gb720, 2, none⟩) (Kd.R_far (p := ⟨gb720, 1, none⟩) (Kd.R_far (p := ⟨gb720, 0, none⟩) (Kd.zas HO_685002.out BK720.out (by decide)) (fun _ hk => hk.2) (.int .i64 t712)) (fun _ hk => hk.2) (.slice Ao78 t713.length co78)) (fun _ hk => hk.2) (.slice Ao79 t716.length co79)) (fun _ h_ => h_.1)))); (case side8 => exact (Kd.R_reads' HO_685002.out).2.1); rintro e w87 ⟨rfl, hb⟩; refine ⟨_, rfl, ?_⟩; have n0_ := Aside0.mk (Kd.zal (by (with_reducible repeat (first | apply Kd.za9 | apply Kd.zaa | apply Kd.zac)); exact (Kd.zak (Kd.R_far (p := ⟨gb720, 2, none⟩) (Kd.R_far (p := ⟨gb720, 1, none⟩) (Kd.R_far (p := ⟨gb720, 0, none⟩) (Kd.zas HO_685001.out BK720.out (by decide)) (fun _ hk => hk.2) (.int .i64 t712)) (fun _ hk => hk.2) (.slice Ao78 t713.length co78)) (fun _ hk => hk.2) (.slice Ao79 t716.length co79)) (fun _ h_ => h_.1))) hb); have n1_ := Aside0.mk (Kd.zal (by (with_reducible repeat (first | apply Kd.za9 | apply Kd.zaa | apply Kd.zac)); exact (Kd.zak (Kd.R_far (p := ⟨gb720, 2, none⟩) (Kd.R_far (p := ⟨gb720, 1, none⟩) (Kd.R_far (p := ⟨gb720, 0, none⟩) (Kd.zas HO_685002.out BK720.out (by decide)) (fun _ hk => hk.2) (.int .i64 t712)) (fun _ hk => hk.2) (.slice Ao78 t713.length co78)) (fun _ hk => hk.2) (.slice Ao79 t716.length co79)) (fun _ h_ => h_.1))) hb); have n2_ := Aside0.mk (Kd.zal (by (with_reducible repeat (first | apply Kd.za9 | apply Kd.zaa | apply Kd.zac)); exact (Kd.zak (Kd.R_far (p := ⟨gb720, 2, none⟩) (Kd.R_far (p := ⟨gb720, 1, none⟩) (Kd.R_far (p := ⟨gb720, 0, none⟩) (Kd.zas HO_697001.out BK720.out (by decide)) (fun _ hk => hk.2) (.int .i64 t712)) (fun _ hk => hk.2) (.slice Ao78 t713.length co78)) (fun _ hk => hk.2) (.slice Ao79 t716.length co79)) (fun _ h_ => h_.1))) hb); have n3_ := Aside0.mk (Kd.zal (by (with_reducible repeat (first | apply Kd.za9 | apply Kd.zaa | apply Kd.zac)); exact (Kd.zak (Kd.R_far (p := ⟨gb720, 2, none⟩) (Kd.R_far (p := ⟨gb720, 1, none⟩) (Kd.R_far (p := ⟨gb720, 0, none⟩) (Kd.zas HO_697002.out BK720.out (by decide)) (fun _ hk => hk.2) (.int .i64 t712)) (fun _ hk => hk.2) (.slice Ao78 t713.length co78)) (fun _ hk => hk.2) (.slice Ao79 t716.length co79)) (fun _ h_ => h_.1))) hb); have n4_ := Aside0.mk (Kd.zal (by (with_reducible repeat (first | apply Kd.za9 | apply Kd.zaa | apply Kd.zac)); exact (Kd.zak (Kd.R_far (p := ⟨gb720, 2, none⟩) (Kd.R_far (p := ⟨gb720, 1, none⟩) (Kd.R_far (p := ⟨gb720, 0, none⟩) (Kd.zas HO711.out BK720.out (by decide)) (fun _ hk => hk.2) (.int .i64 t712)) (fun _ hk => hk.2) (.slice Ao78 t713.length co78)) (fun _ hk => hk.2) (.slice Ao79 t716.length co79)) (fun _ h_ => h_.1))) hb); have n5_ := Aside0.mk (Kd.zal (by (with_reducible repeat (first | apply Kd.za9 | apply Kd.zaa | apply Kd.zac)); exact (Kd.zak (Kd.R_far (p := ⟨gb720, 2, none⟩) (Kd.R_far (p := ⟨gb720, 1, none⟩) (Kd.R_far (p := ⟨gb720, 0, none⟩) (Kd.zas HO715.out BK720.out (by decide)) (fun _ hk => hk.2) (.int .i64 t712)) (fun _ hk => hk.2) (.slice Ao78 t713.length co78)) (fun _ hk => hk.2) (.slice Ao79 t716.length co79)) (fun _ h_ => h_.1))) hb); have n6_ := Aside0.mk (Kd.zal (by (with_reducible repeat (first | apply Kd.za9 | apply Kd.zaa | apply Kd.zac)); exact (Kd.zak (Kd.R_far (p := ⟨gb720, 2, none⟩) (Kd.R_far (p := ⟨gb720, 1, none⟩) (Kd.R_far (p := ⟨gb720, 0, none⟩) (Kd.zas HO718.out BK720.out (by decide)) (fun _ hk => hk.2) (.int .i64 t712)) (fun _ hk => hk.2) (.slice Ao78 t713.length co78)) (fun _ hk => hk.2) (.slice Ao79 t716.length co79)) (fun _ h_ => h_.1))) hb); have n7_ := Aside0.mk (zae (g := gb684) (o := .cells #[.int .i64 t676, .slice Ao13 t677.length co13, .slice Ao14 t680.length co14] 36 (0, 0)) (by (with_reducible repeat (first | refine za5 ?_ _ | refine za7 ?_ | refine za6 ?_ _)); refine zb1 ?_ NB684_720.out _; (with_reducible repeat (first | refine za5 ?_ _ | refine za7 ?_ | refine za6 ?_ _)); refine zb1 ?_ NB684_720.out _; (with_reducible repeat (first | refine za5 ?_ _ | refine za7 ?_ | refine za6 ?_ _)); refine zb1 ?_ NB684_720.out _; (with_reducible repeat (first | refine za5 ?_ _ | refine za7 ?_ | refine za6 ?_ _)); exact BK684.out) hb); have n8_ := Aside0.mk (zae (g := gb696) (o := .cells #[.int .i64 t688, .slice Ao21 t689.length co21, .slice Ao22 t692.length co22] 36 (0, 0)) (by (with_reducible repeat (first | refine za5 ?_ _ | refine za7 ?_ | refine za6 ?_ _)); refine zb1 ?_ NB696_720.out _; (with_reducible repeat (first | refine za5 ?_ _ | refine za7 ?_ | refine za6 ?_ _)); refine zb1 ?_ NB696_720.out _; (with_reducible repeat (first | refine za5 ?_ _ | refine za7 ?_ | refine za6 ?_ _)); refine zb1 ?_ NB696_720.out _; (with_reducible repeat (first | refine za5 ?_ _ | refine za7 ?_ | refine za6 ?_ _)); exact BK696.out) hb); have n9_ := Aside0.mk (zae (g := gb720) (o := .cells #[.int .i64 t712, .slice Ao78 t713.length co78, .slice Ao79 t716.length co79] 36 (0, 0)) (by (with_reducible repeat (first | refine za5 ?_ _ | refine za7 ?_ | refine za6 ?_ _)); refine zaw (cs := #[.int .i64 t712, .slice Ao78 t713.length co78, .slice none 0 0]) ?_ 2 _ rfl; (with_reducible repeat (first | refine za5 ?_ _ | refine za7 ?_ | refine za6 ?_ _)); refine zaw (cs := #[.int .i64 t712, .slice none 0 0, .slice none 0 0]) ?_ 1 _ rfl; (with_reducible repeat (first | refine za5 ?_ _ | refine za7 ?_ | refine za6 ?_ _)); refine zaw (cs := #[.int .i64 0, .slice none 0 0, .slice none 0 0]) ?_ 0 _ rfl; (with_reducible repeat (first | refine za5 ?_ _ | refine za7 ?_ | refine za6 ?_ _)); exact BK720.out) hb); have n10_ := Aside0.mk (zaf (by repeat (first | (with_reducible first | exact HB.out | apply za1 | apply za0 | apply za2 | refine za3 ?_ GE684.out | refine za3 ?_ GE696.out | refine za3 ?_ GE720.out) | exact HB.out)) hb); clear HO_685001; clear HO_685002; clear HO_697001; clear HO_697002; clear HO711; clear HO715; clear HO718; clear BK684; clear BK696; clear BK720; clear HB; have HO_685001 := n0_; have HO_685002 := n1_; have HO_697001 := n2_; have HO_697002 := n3_; have HO711 := n4_; have HO715 := n5_; have HO718 := n6_; have BK684 := n7_; have BK696 := n8_; have BK720 := n9_; have HB := n10_; clear n0_ n1_ n2_ n3_ n4_ n5_ n6_ n7_ n8_ n9_ n10_; (try clear hb); (try clear hb2); (try clear hk); (try clear hi)))
                          go_meet
                          case rel => exact ⟨_, ((t719 != t683)), (by first | rfl | (simp; done) | (simp [*]; done)), H', ⟨by have := HJ6.out; have := HJ37.out; first | omega | exact Nat.le_refl _⟩, ⟨by (with_reducible repeat (first | apply Kd.za9 | apply Kd.zaa | apply Kd.zac)); exact HO_685001.out⟩, ⟨by (with_reducible repeat (first | apply Kd.za9 | apply Kd.zaa | apply Kd.zac)); exact Kd.zak HO_685002.out (fun _ hk => ⟨hk.1.1, hk.2⟩)⟩, ⟨by (with_reducible repeat (first | apply Kd.za9 | apply Kd.zaa | apply Kd.zac)); exact HO_697001.out⟩, ⟨by (with_reducible repeat (first | apply Kd.za9 | apply Kd.zaa | apply Kd.zac)); exact Kd.zak HO_697002.out (fun _ hk => ⟨hk.1.1, hk.2⟩)⟩, ⟨by (with_reducible repeat (first | apply Kd.za9 | apply Kd.zaa | apply Kd.zac)); exact Kd.zak HO715.out (fun _ hk => ⟨hk.1.2, hk.2⟩)⟩, ⟨by (with_reducible repeat (first | apply Kd.za9 | apply Kd.zaa | apply Kd.zac)); exact Kd.zak HO718.out (fun _ hk => ⟨hk.1.1.2, hk.1.2⟩)⟩, ⟨by (with_reducible repeat (first | refine za5 ?_ _ | refine za7 ?_ | refine za6 ?_ _)); exact BK684.out⟩, ⟨by (with_reducible repeat (first | refine za5 ?_ _ | refine za7 ?_ | refine za6 ?_ _)); exact BK696.out⟩, ⟨by (with_reducible repeat (first | refine za5 ?_ _ | refine za7 ?_ | refine za6 ?_ _)); exact BK720.out⟩, ⟨by repeat (first | (with_reducible first | exact HB.out | apply za1 | apply za0 | apply za2 | refine za3 ?_ GE684.out | refine za3 ?_ GE696.out | refine za3 ?_ GE720.out) | exact HB.out)⟩⟩
                        · replace c81 := Bool.eq_false_iff.mpr c81
                          subst c81
                          have H1 : (laws_FnExactSquaresPlan.j2 kj37 t705 true t688 t706 t707) = some r := by rw [if_neg (show ¬ (false = true) by decide)] at H; exact H
                          clear H
                          have H := H1
                          clear H1
                          have H' := Aside0.mk H
                          clear H
                          have hnb88 := NB720_684.out
                          have hnc88 := NB684_720.out
                          have hnb89 := NB720_696.out
                          have hnc89 := NB696_720.out
                          have hcz90_0 : w74.cell? ⟨gb720, 0, none⟩ = some (.int .i64 0) := (za8 BK720.out 0).trans rfl
                          have hcz90_1 : w74.cell? ⟨gb720, 1, none⟩ = some (.slice none 0 0) := (za8 BK720.out 1).trans rfl
                          have hcz90_2 : w74.cell? ⟨gb720, 2, none⟩ = some (.slice none 0 0) := (za8 BK720.out 2).trans rfl
                          have hfz90_0 := za4 BK720.out 0
                          have hfz90_1 := za4 BK720.out 1
                          have hfz90_2 := za4 BK720.out 2
                          have hnb91 := NB684_696.out
                          have hnc91 := NB696_684.out
                          have hcz92_0 : w74.cell? ⟨gb684, 0, none⟩ = some (.int .i64 t676) := (za8 BK684.out 0).trans rfl
                          have hcz92_1 : w74.cell? ⟨gb684, 1, none⟩ = some (.slice Ao13 t677.length co13) := (za8 BK684.out 1).trans rfl
                          have hcz92_2 : w74.cell? ⟨gb684, 2, none⟩ = some (.slice Ao14 t680.length co14) := (za8 BK684.out 2).trans rfl
                          have hfz92_0 := za4 BK684.out 0
                          have hfz92_1 := za4 BK684.out 1
                          have hfz92_2 := za4 BK684.out 2
                          go_wp2_with (first | ((with_reducible refine zah (f := 23) rfl ?_); refine zay (some 78) rfl rfl Try.func23 (by kernel_rfl) rfl #[.agg #[.int .i64 t712, .slice Ao78 t713.length co78, .slice Ao79 t716.length co79], .agg #[.int .i64 t676, .slice Ao13 t677.length co13, .slice Ao14 t680.length co14]] rfl (by (try simp only [List.map_toArray, List.map_cons, List.map_nil]); first | done | rfl | (simp only [List.length_drop, List.length_take]; rfl)) ?_; (with_reducible refine (laws_eqPlan.calls kj37 t712 _ _ t713 _ _ t716 t676 _ _ t677 _ _ t680 false _ ?side1 ?side2 ?side3 ?side4 ?side5 ?side6 ?side7 ?side8 A80.out).mono ?_); (case side1 => refine (Kd.R_reads' (e := 117) (base := w.heap.size) (ok := fun k_ => ((True ∧ some k_ ≠ (.slice Ao13 t677.length co13 : Value).ownBlock) ∧ some k_ ≠ (.slice Ao21 t689.length co21 : Value).ownBlock)) (n := t713.length) (c := co78) ?_).2.2; exact (by (with_reducible repeat (first | apply Kd.za9 | apply Kd.zaa | apply Kd.zac)); exact (Kd.zak (Kd.R_far (p := ⟨gb720, 2, none⟩) (Kd.R_far (p := ⟨gb720, 1, none⟩) (Kd.R_far (p := ⟨gb720, 0, none⟩) (Kd.zas HO715.out BK720.out (by decide)) (fun _ hk => hk.2) (.int .i64 t712)) (fun _ hk => hk.2) (.slice Ao78 t713.length co78)) (fun _ hk => hk.2) (.slice Ao79 t716.length co79)) (fun _ h_ => h_.1)))); (case side2 => exact (Kd.R_reads' HO715.out).2.1); (case side3 => refine (Kd.R_reads' (e := 3) (base := w.heap.size) (ok := fun k_ => (((True ∧ some k_ ≠ (.slice Ao14 t680.length co14 : Value).ownBlock) ∧ some k_ ≠ (.slice Ao22 t692.length co22 : Value).ownBlock) ∧ some k_ ≠ (.slice Ao72 t709.length co72 : Value).ownBlock)) (n := t716.length) (c := co79) ?_).2.2; exact (by (with_reducible repeat (first | apply Kd.za9 | apply Kd.zaa | apply Kd.zac)); exact (Kd.zak (Kd.R_far (p := ⟨gb720, 2, none⟩) (Kd.R_far (p := ⟨gb720, 1, none⟩) (Kd.R_far (p := ⟨gb720, 0, none⟩) (Kd.zas HO718.out BK720.out (by decide)) (fun _ hk => hk.2) (.int .i64 t712)) (fun _ hk => hk.2) (.slice Ao78 t713.length co78)) (fun _ hk => hk.2) (.slice Ao79 t716.length co79)) (fun _ h_ => h_.1)))); (case side4 => exact (Kd.R_reads' HO718.out).2.1); (case side5 => refine (Kd.R_reads' (e := 117) (base := w.heap.size) (ok := fun k_ => (some k_ ≠ (.slice Ao21 t689.length co21 : Value).ownBlock ∧ some k_ ≠ (.slice Ao78 t713.length co78 : Value).ownBlock)) (n := t677.length) (c := co13) ?_).2.2; exact (by (with_reducible repeat (first | apply Kd.za9 | apply Kd.zaa | apply Kd.zac)); exact (Kd.zak (Kd.R_far (p := ⟨gb720, 2, none⟩) (Kd.R_far (p := ⟨gb720, 1, none⟩) (Kd.R_far (p := ⟨gb720, 0, none⟩) (Kd.zas HO_685001.out BK720.out (by decide)) (fun _ hk => hk.2) (.int .i64 t712)) (fun _ hk => hk.2) (.slice Ao78 t713.length co78)) (fun _ hk => hk.2) (.slice Ao79 t716.length co79)) (fun _ h_ => h_.1)))); (case side6 => exact (Kd.R_reads' HO_685001.out).2.1); (case side7 => refine (Kd.R_reads' (e := 3) (base := w.heap.size) (ok := fun k_ => ((some k_ ≠ (.slice Ao22 t692.length co22 : Value).ownBlock ∧ some k_ ≠ (.slice Ao72 t709.length co72 : Value).ownBlock) ∧ some k_ ≠ (.slice Ao79 t716.length co79 : Value).ownBlock)) (n := t680.length) (c := co14) ?_).2.2; exact (by (with_reducible repeat (first | apply Kd.za9 | apply Kd.zaa | apply Kd.zac)); exact (Kd.zak (Kd.R_far (p := ⟨gb720, 2, none⟩) (Kd.R_far (p := ⟨gb720, 1, none⟩) (Kd.R_far (p := ⟨gb720, 0, none⟩) (Kd.zas HO_685002.out BK720.out (by decide)) (fun _ hk => hk.2) (.int .i64 t712)) (fun _ hk => hk.2) (.slice Ao78 t713.length co78)) (fun _ hk => hk.2) (.slice Ao79 t716.length co79)) (fun _ h_ => h_.1)))); (case side8 => exact (Kd.R_reads' HO_685002.out).2.1); rintro e w93 ⟨rfl, hb⟩; refine ⟨_, rfl, ?_⟩; have n0_ := Aside0.mk (Kd.zal (by (with_reducible repeat (first | apply Kd.za9 | apply Kd.zaa | apply Kd.zac)); exact (Kd.zak (Kd.R_far (p := ⟨gb720, 2, none⟩) (Kd.R_far (p := ⟨gb720, 1, none⟩) (Kd.R_far (p := ⟨gb720, 0, none⟩) (Kd.zas HO_685001.out BK720.out (by decide)) (fun _ hk => hk.2) (.int .i64 t712)) (fun _ hk => hk.2) (.slice Ao78 t713.length co78)) (fun _ hk => hk.2) (.slice Ao79 t716.length co79)) (fun _ h_ => h_.1))) hb); have n1_ := Aside0.mk (Kd.zal (by (with_reducible repeat (first | apply Kd.za9 | apply Kd.zaa | apply Kd.zac)); exact (Kd.zak (Kd.R_far (p := ⟨gb720, 2, none⟩) (Kd.R_far (p := ⟨gb720, 1, none⟩) (Kd.R_far (p := ⟨gb720, 0, none⟩) (Kd.zas HO_685002.out BK720.out (by decide)) (fun _ hk => hk.2) (.int .i64 t712)) (fun _ hk => hk.2) (.slice Ao78 t713.length co78)) (fun _ hk => hk.2) (.slice Ao79 t716.length co79)) (fun _ h_ => h_.1))) hb); have n2_ := Aside0.mk (Kd.zal (by (with_reducible repeat (first | apply Kd.za9 | apply Kd.zaa | apply Kd.zac)); exact (Kd.zak (Kd.R_far (p := ⟨gb720, 2, none⟩) (Kd.R_far (p := ⟨gb720, 1, none⟩) (Kd.R_far (p := ⟨gb720, 0, none⟩) (Kd.zas HO_697001.out BK720.out (by decide)) (fun _ hk => hk.2) (.int .i64 t712)) (fun _ hk => hk.2) (.slice Ao78 t713.length co78)) (fun _ hk => hk.2) (.slice Ao79 t716.length co79)) (fun _ h_ => h_.1))) hb); have n3_ := Aside0.mk (Kd.zal (by (with_reducible repeat (first | apply Kd.za9 | apply Kd.zaa | apply Kd.zac)); exact (Kd.zak (Kd.R_far (p := ⟨gb720, 2, none⟩) (Kd.R_far (p := ⟨gb720, 1, none⟩) (Kd.R_far (p := ⟨gb720, 0, none⟩) (Kd.zas HO_697002.out BK720.out (by decide)) (fun _ hk => hk.2) (.int .i64 t712)) (fun _ hk => hk.2) (.slice Ao78 t713.length co78)) (fun _ hk => hk.2) (.slice Ao79 t716.length co79)) (fun _ h_ => h_.1))) hb); have n4_ := Aside0.mk (Kd.zal (by (with_reducible repeat (first | apply Kd.za9 | apply Kd.zaa | apply Kd.zac)); exact (Kd.zak (Kd.R_far (p := ⟨gb720, 2, none⟩) (Kd.R_far (p := ⟨gb720, 1, none⟩) (Kd.R_far (p := ⟨gb720, 0, none⟩) (Kd.zas HO711.out BK720.out (by decide)) (fun _ hk => hk.2) (.int .i64 t712)) (fun _ hk => hk.2) (.slice Ao78 t713.length co78)) (fun _ hk => hk.2) (.slice Ao79 t716.length co79)) (fun _ h_ => h_.1))) hb); have n5_ := Aside0.mk (Kd.zal (by (with_reducible repeat (first | apply Kd.za9 | apply Kd.zaa | apply Kd.zac)); exact (Kd.zak (Kd.R_far (p := ⟨gb720, 2, none⟩) (Kd.R_far (p := ⟨gb720, 1, none⟩) (Kd.R_far (p := ⟨gb720, 0, none⟩) (Kd.zas HO715.out BK720.out (by decide)) (fun _ hk => hk.2) (.int .i64 t712)) (fun _ hk => hk.2) (.slice Ao78 t713.length co78)) (fun _ hk => hk.2) (.slice Ao79 t716.length co79)) (fun _ h_ => h_.1))) hb); have n6_ := Aside0.mk (Kd.zal (by (with_reducible repeat (first | apply Kd.za9 | apply Kd.zaa | apply Kd.zac)); exact (Kd.zak (Kd.R_far (p := ⟨gb720, 2, none⟩) (Kd.R_far (p := ⟨gb720, 1, none⟩) (Kd.R_far (p := ⟨gb720, 0, none⟩) (Kd.zas HO718.out BK720.out (by decide)) (fun _ hk => hk.2) (.int .i64 t712)) (fun _ hk => hk.2) (.slice Ao78 t713.length co78)) (fun _ hk => hk.2) (.slice Ao79 t716.length co79)) (fun _ h_ => h_.1))) hb); have n7_ := Aside0.mk (zae (g := gb684) (o := .cells #[.int .i64 t676, .slice Ao13 t677.length co13, .slice Ao14 t680.length co14] 36 (0, 0)) (by (with_reducible repeat (first | refine za5 ?_ _ | refine za7 ?_ | refine za6 ?_ _)); refine zb1 ?_ NB684_720.out _; (with_reducible repeat (first | refine za5 ?_ _ | refine za7 ?_ | refine za6 ?_ _)); refine zb1 ?_ NB684_720.out _; (with_reducible repeat (first | refine za5 ?_ _ | refine za7 ?_ | refine za6 ?_ _)); refine zb1 ?_ NB684_720.out _; (with_reducible repeat (first | refine za5 ?_ _ | refine za7 ?_ | refine za6 ?_ _)); exact BK684.out) hb); have n8_ := Aside0.mk (zae (g := gb696) (o := .cells #[.int .i64 t688, .slice Ao21 t689.length co21, .slice Ao22 t692.length co22] 36 (0, 0)) (by (with_reducible repeat (first | refine za5 ?_ _ | refine za7 ?_ | refine za6 ?_ _)); refine zb1 ?_ NB696_720.out _; (with_reducible repeat (first | refine za5 ?_ _ | refine za7 ?_ | refine za6 ?_ _)); refine zb1 ?_ NB696_720.out _; (with_reducible repeat (first | refine za5 ?_ _ | refine za7 ?_ | refine za6 ?_ _)); refine zb1 ?_ NB696_720.out _; (with_reducible repeat (first | refine za5 ?_ _ | refine za7 ?_ | refine za6 ?_ _)); exact BK696.out) hb); have n9_ := Aside0.mk (zae (g := gb720) (o := .cells #[.int .i64 t712, .slice Ao78 t713.length co78, .slice Ao79 t716.length co79] 36 (0, 0)) (by (with_reducible repeat (first | refine za5 ?_ _ | refine za7 ?_ | refine za6 ?_ _)); refine zaw (cs := #[.int .i64 t712, .slice Ao78 t713.length co78, .slice none 0 0]) ?_ 2 _ rfl; (with_reducible repeat (first | refine za5 ?_ _ | refine za7 ?_ | refine za6 ?_ _)); refine zaw (cs := #[.int .i64 t712, .slice none 0 0, .slice none 0 0]) ?_ 1 _ rfl; (with_reducible repeat (first | refine za5 ?_ _ | refine za7 ?_ | refine za6 ?_ _)); refine zaw (cs := #[.int .i64 0, .slice none 0 0, .slice none 0 0]) ?_ 0 _ rfl; (with_reducible repeat (first | refine za5 ?_ _ | refine za7 ?_ | refine za6 ?_ _)); exact BK720.out) hb); have n10_ := Aside0.mk (zaf (by repeat (first | (with_reducible first | exact HB.out | apply za1 | apply za0 | apply za2 | refine za3 ?_ GE684.out | refine za3 ?_ GE696.out | refine za3 ?_ GE720.out) | exact HB.out)) hb); clear HO_685001; clear HO_685002; clear HO_697001; clear HO_697002; clear HO711; clear HO715; clear HO718; clear BK684; clear BK696; clear BK720; clear HB; have HO_685001 := n0_; have HO_685002 := n1_; have HO_697001 := n2_; have HO_697002 := n3_; have HO711 := n4_; have HO715 := n5_; have HO718 := n6_; have BK684 := n7_; have BK696 := n8_; have BK720 := n9_; have HB := n10_; clear n0_ n1_ n2_ n3_ n4_ n5_ n6_ n7_ n8_ n9_ n10_; (try clear hb); (try clear hb2); (try clear hk); (try clear hi)))
                          go_meet
                          case rel => exact ⟨_, (true), (by first | rfl | (simp; done) | (simp [*]; done)), H', ⟨by have := HJ6.out; have := HJ37.out; first | omega | exact Nat.le_refl _⟩, ⟨by (with_reducible repeat (first | apply Kd.za9 | apply Kd.zaa | apply Kd.zac)); exact HO_685001.out⟩, ⟨by (with_reducible repeat (first | apply Kd.za9 | apply Kd.zaa | apply Kd.zac)); exact Kd.zak HO_685002.out (fun _ hk => ⟨hk.1.1, hk.2⟩)⟩, ⟨by (with_reducible repeat (first | apply Kd.za9 | apply Kd.zaa | apply Kd.zac)); exact HO_697001.out⟩, ⟨by (with_reducible repeat (first | apply Kd.za9 | apply Kd.zaa | apply Kd.zac)); exact Kd.zak HO_697002.out (fun _ hk => ⟨hk.1.1, hk.2⟩)⟩, ⟨by (with_reducible repeat (first | apply Kd.za9 | apply Kd.zaa | apply Kd.zac)); exact Kd.zak HO715.out (fun _ hk => ⟨hk.1.2, hk.2⟩)⟩, ⟨by (with_reducible repeat (first | apply Kd.za9 | apply Kd.zaa | apply Kd.zac)); exact Kd.zak HO718.out (fun _ hk => ⟨hk.1.1.2, hk.1.2⟩)⟩, ⟨by (with_reducible repeat (first | refine za5 ?_ _ | refine za7 ?_ | refine za6 ?_ _)); exact BK684.out⟩, ⟨by (with_reducible repeat (first | refine za5 ?_ _ | refine za7 ?_ | refine za6 ?_ _)); exact BK696.out⟩, ⟨by (with_reducible repeat (first | refine za5 ?_ _ | refine za7 ?_ | refine za6 ?_ _)); exact BK720.out⟩, ⟨by repeat (first | (with_reducible first | exact HB.out | apply za1 | apply za0 | apply za2 | refine za3 ?_ GE684.out | refine za3 ?_ GE696.out | refine za3 ?_ GE720.out) | exact HB.out)⟩⟩
                      case rest =>
                        clear HC65
                        try clear c1
                        try clear c2
                        try clear c2b0
                        try clear c2b1
                        try clear p2
                        try clear c3
                        try clear c4
                        try clear c5
                        try clear c6
                        try clear c7
                        try clear c8
                        try clear c9
                        try clear c19
                        try clear c23
                        try clear c24
                        try clear c25
                        try clear c26
                        try clear c28
                        try clear c29
                        try clear c30
                        try clear c31
                        try clear c33
                        try clear c36
                        try clear c37
                        try clear c38
                        try clear c42
                        try clear c42b0
                        try clear c44
                        try clear c45
                        try clear c49
                        try clear c53
                        try clear c56
                        try clear c56b0
                        try clear c57
                        try clear c62
                        try clear c62b0
                        try clear c62b1
                        try clear c66
                        try clear c75
                        try clear c76
                        try clear c81
                        try clear c82
                        try clear c83
                        try clear c85
                        try clear c88
                        try clear c89
                        try clear c91
                        try clear hcz12_0
                        try clear hcz12_1
                        try clear hcz12_2
                        try clear hcz20_0
                        try clear hcz20_1
                        try clear hcz20_2
                        try clear hcz26_0
                        try clear hcz26_1
                        try clear hcz26_2
                        try clear hcz27_0
                        try clear hcz27_1
                        try clear hcz27_2
                        try clear hcz30_0
                        try clear hcz30_1
                        try clear hcz30_2
                        try clear hcz31_0
                        try clear hcz31_1
                        try clear hcz31_2
                        try clear hcz46_0
                        try clear hcz46_1
                        try clear hcz46_2
                        try clear hcz47_0
                        try clear hcz47_1
                        try clear hcz47_2
                        try clear hcz50_0
                        try clear hcz50_1
                        try clear hcz50_2
                        try clear hcz51_0
                        try clear hcz51_1
                        try clear hcz51_2
                        try clear hcz58_0
                        try clear hcz58_1
                        try clear hcz58_2
                        try clear hcz60_0
                        try clear hcz60_1
                        try clear hcz60_2
                        try clear hcz67_0
                        try clear hcz67_1
                        try clear hcz67_2
                        try clear hcz69_0
                        try clear hcz69_1
                        try clear hcz69_2
                        try clear hcz77_0
                        try clear hcz77_1
                        try clear hcz77_2
                        try clear hcz84_0
                        try clear hcz84_1
                        try clear hcz84_2
                        try clear hcz86_0
                        try clear hcz86_1
                        try clear hcz86_2
                        try clear hcz90_0
                        try clear hcz90_1
                        try clear hcz90_2
                        try clear hcz92_0
                        try clear hcz92_1
                        try clear hcz92_2
                        try clear hfz12_0
                        try clear hfz12_1
                        try clear hfz12_2
                        try clear hfz20_0
                        try clear hfz20_1
                        try clear hfz20_2
                        try clear hfz26_0
                        try clear hfz26_1
                        try clear hfz26_2
                        try clear hfz27_0
                        try clear hfz27_1
                        try clear hfz27_2
                        try clear hfz30_0
                        try clear hfz30_1
                        try clear hfz30_2
                        try clear hfz31_0
                        try clear hfz31_1
                        try clear hfz31_2
                        try clear hfz46_0
                        try clear hfz46_1
                        try clear hfz46_2
                        try clear hfz47_0
                        try clear hfz47_1
                        try clear hfz47_2
                        try clear hfz50_0
                        try clear hfz50_1
                        try clear hfz50_2
                        try clear hfz51_0
                        try clear hfz51_1
                        try clear hfz51_2
                        try clear hfz58_0
                        try clear hfz58_1
                        try clear hfz58_2
                        try clear hfz60_0
                        try clear hfz60_1
                        try clear hfz60_2
                        try clear hfz67_0
                        try clear hfz67_1
                        try clear hfz67_2
                        try clear hfz69_0
                        try clear hfz69_1
                        try clear hfz69_2
                        try clear hfz77_0
                        try clear hfz77_1
                        try clear hfz77_2
                        try clear hfz84_0
                        try clear hfz84_1
                        try clear hfz84_2
                        try clear hfz86_0
                        try clear hfz86_1
                        try clear hfz86_2
                        try clear hfz90_0
                        try clear hfz90_1
                        try clear hfz90_2
                        try clear hfz92_0
                        try clear hfz92_1
                        try clear hfz92_2
                        try clear p2
                        obtain ⟨kq, x84_64, rfl, HA, HJ64, HO_685001, HO_685002, HO_697001, HO_697002, HO_721001, HO_721002, BK684, BK696, BK720, HB⟩ := hcut
                        have hl697001_64 := (Kd.R_reads' HO_697001.out).1
                        rw [hl697001_64] at HO_697001
                        (try simp only [hl697001_64])
                        (try simp only [hl697001_64] at BK684)
                        (try simp only [hl697001_64] at BK696)
                        (try simp only [hl697001_64] at BK720)
                        (try simp only [hl697001_64] at HO_685001)
                        (try simp only [hl697001_64] at HO_685002)
                        (try simp only [hl697001_64] at HO_697002)
                        (try simp only [hl697001_64] at HO_721001)
                        (try simp only [hl697001_64] at HO_721002)
                        have hl697002_64 := (Kd.R_reads' HO_697002.out).1
                        rw [hl697002_64] at HO_697002
                        (try simp only [hl697002_64])
                        (try simp only [hl697002_64] at BK684)
                        (try simp only [hl697002_64] at BK696)
                        (try simp only [hl697002_64] at BK720)
                        (try simp only [hl697002_64] at HO_685001)
                        (try simp only [hl697002_64] at HO_685002)
                        (try simp only [hl697002_64] at HO_697001)
                        (try simp only [hl697002_64] at HO_721001)
                        (try simp only [hl697002_64] at HO_721002)
                        cases kq with
                        | zero => exact absurd HA.out (by simp [laws_FnExactSquaresPlan.j2])
                        | succ kj64 =>
                          have H := HA.out
                          clear HA
                          simp only [laws_FnExactSquaresPlan.j2] at H
                          by_cases c94 : x84_64 = true
                          · subst c94
                            have H1 : (some false) = some r := by rw [if_pos rfl] at H; exact H
                            clear H
                            have H := H1
                            clear H1
                            obtain rfl := Option.some.inj H
                            go_wp2
                            go_ret
                            exact ⟨by first | rfl | (simp [zai, zaj] <;> rfl) | (simp [*, zai, zaj] <;> rfl), by repeat (first | (with_reducible first | exact HB.out | apply za1 | apply za0 | apply za2 | refine za3 ?_ GE684.out | refine za3 ?_ GE696.out | refine za3 ?_ GE720.out) | exact HB.out)⟩
                          · replace c94 := Bool.eq_false_iff.mpr c94
                            subst c94
                            have H1 : ((laws_heldPlan.f kj64 t688 t706 t707 1).bind fun t722 => (if t722 < 0 then (some false) else (if t722 = t705 then (some true) else (some false)))) = some r := by rw [if_neg (show ¬ (false = true) by decide)] at H; exact H
                            clear H
                            have H := H1
                            clear H1
                            replace H := Option.bind_eq_some_iff.mp H
                            obtain ⟨t722, A950, H⟩ := H
                            replace H : (if t722 < 0 then (some false) else (if t722 = t705 then (some true) else (some false))) = some r := H
                            have A95 := Aside0.mk A950
                            clear A950
                            by_cases c96 : t722 < 0
                            · rw [if_pos c96] at H
                              have c96b0 : decide (t722 < 0) = true := decide_eq_true c96
                              clear c96
                              obtain rfl := Option.some.inj H
                              have hnb97 := NB696_684.out
                              have hnc97 := NB684_696.out
                              have hnb98 := NB696_720.out
                              have hnc98 := NB720_696.out
                              have hcz99_0 : wc.cell? ⟨gb696, 0, none⟩ = some (.int .i64 t688) := (za8 BK696.out 0).trans rfl
                              have hcz99_1 : wc.cell? ⟨gb696, 1, none⟩ = some (.slice Ao21 t706.length co21) := (za8 BK696.out 1).trans rfl
                              have hcz99_2 : wc.cell? ⟨gb696, 2, none⟩ = some (.slice Ao22 t707.length co22) := (za8 BK696.out 2).trans rfl
                              have hfz99_0 := za4 BK696.out 0
                              have hfz99_1 := za4 BK696.out 1
                              have hfz99_2 := za4 BK696.out 2
                              go_wp2_with (first | ((with_reducible refine zah (f := 26) rfl ?_); refine zay (some 87) rfl rfl Try.func26 (by kernel_rfl) rfl #[.agg #[.int .i64 t688, .slice Ao21 t706.length co21, .slice Ao22 t707.length co22], .int .i64 1] rfl (by (try simp only [List.map_toArray, List.map_cons, List.map_nil]); first | done | rfl | (simp only [List.length_drop, List.length_take]; rfl)) ?_; (with_reducible refine (laws_heldPlan.calls kj64 t688 _ _ t706 _ _ t707 1 t722 _ ?side1 ?side2 ?side3 ?side4 A95.out).mono ?_); (case side1 => repeat (first | exact (Kd.R_reads' HO_697001.out).2.2 | (with_reducible refine Kd.zar ?_ _) | (with_reducible refine Kd.zao ?_ _) | (with_reducible refine Kd.zau ?_))); (case side2 => exact (Kd.R_reads' HO_697001.out).2.1); (case side3 => repeat (first | exact (Kd.R_reads' HO_697002.out).2.2 | (with_reducible refine Kd.zar ?_ _) | (with_reducible refine Kd.zao ?_ _) | (with_reducible refine Kd.zau ?_))); (case side4 => exact (Kd.R_reads' HO_697002.out).2.1); rintro e w100 ⟨rfl, hb⟩; refine ⟨_, rfl, ?_⟩; have n0_ := Aside0.mk (Kd.zal (by (with_reducible repeat (first | apply Kd.za9 | apply Kd.zaa | apply Kd.zac)); exact HO_685001.out) hb); have n1_ := Aside0.mk (Kd.zal (by (with_reducible repeat (first | apply Kd.za9 | apply Kd.zaa | apply Kd.zac)); exact HO_685002.out) hb); have n2_ := Aside0.mk (Kd.zal (by (with_reducible repeat (first | apply Kd.za9 | apply Kd.zaa | apply Kd.zac)); exact HO_697001.out) hb); have n3_ := Aside0.mk (Kd.zal (by (with_reducible repeat (first | apply Kd.za9 | apply Kd.zaa | apply Kd.zac)); exact HO_697002.out) hb); have n4_ := Aside0.mk (Kd.zal (by (with_reducible repeat (first | apply Kd.za9 | apply Kd.zaa | apply Kd.zac)); exact HO_721001.out) hb); have n5_ := Aside0.mk (Kd.zal (by (with_reducible repeat (first | apply Kd.za9 | apply Kd.zaa | apply Kd.zac)); exact HO_721002.out) hb); have n6_ := Aside0.mk (zae (g := gb684) (o := .cells #[.int .i64 t676, .slice Ao13 t677.length co13, .slice Ao14 t680.length co14] 36 (0, 0)) (by (with_reducible repeat (first | refine za5 ?_ _ | refine za7 ?_ | refine za6 ?_ _)); exact BK684.out) hb); have n7_ := Aside0.mk (zae (g := gb696) (o := .cells #[.int .i64 t688, .slice Ao21 t706.length co21, .slice Ao22 t707.length co22] 36 (0, 0)) (by (with_reducible repeat (first | refine za5 ?_ _ | refine za7 ?_ | refine za6 ?_ _)); exact BK696.out) hb); have n8_ := Aside0.mk (zae (g := gb720) (o := .cells #[.int .i64 t712, .slice Ao78 t713.length co78, .slice Ao79 t716.length co79] 36 (0, 0)) (by (with_reducible repeat (first | refine za5 ?_ _ | refine za7 ?_ | refine za6 ?_ _)); exact BK720.out) hb); have n9_ := Aside0.mk (zaf (by repeat (first | (with_reducible first | exact HB.out | apply za1 | apply za0 | apply za2 | refine za3 ?_ GE684.out | refine za3 ?_ GE696.out | refine za3 ?_ GE720.out) | exact HB.out)) hb); clear HO_685001; clear HO_685002; clear HO_697001; clear HO_697002; clear HO_721001; clear HO_721002; clear BK684; clear BK696; clear BK720; clear HB; have HO_685001 := n0_; have HO_685002 := n1_; have HO_697001 := n2_; have HO_697002 := n3_; have HO_721001 := n4_; have HO_721002 := n5_; have BK684 := n6_; have BK696 := n7_; have BK720 := n8_; have HB := n9_; clear n0_ n1_ n2_ n3_ n4_ n5_ n6_ n7_ n8_ n9_; (try clear hb); (try clear hb2); (try clear hk); (try clear hi)))
                              go_ret
                              exact ⟨by first | rfl | (simp [zai, zaj] <;> rfl) | (simp [*, zai, zaj] <;> rfl), by repeat (first | (with_reducible first | exact HB.out | apply za1 | apply za0 | apply za2 | refine za3 ?_ GE684.out | refine za3 ?_ GE696.out | refine za3 ?_ GE720.out) | exact HB.out)⟩
                            · rw [if_neg c96] at H
                              have c96b0 : decide (t722 < 0) = false := decide_eq_false c96
                              clear c96
                              by_cases c101 : t722 = t705
                              · rw [if_pos c101] at H
                                have c101b0 : (t722 == t705) = true := beq_iff_eq.mpr c101
                                have c101b1 : (t722 != t705) = false := bne_eq_false_iff_eq.mpr c101
                                clear c101
                                obtain rfl := Option.some.inj H
                                have hnb102 := NB696_684.out
                                have hnc102 := NB684_696.out
                                have hnb103 := NB696_720.out
                                have hnc103 := NB720_696.out
                                have hcz104_0 : wc.cell? ⟨gb696, 0, none⟩ = some (.int .i64 t688) := (za8 BK696.out 0).trans rfl
                                have hcz104_1 : wc.cell? ⟨gb696, 1, none⟩ = some (.slice Ao21 t706.length co21) := (za8 BK696.out 1).trans rfl
                                have hcz104_2 : wc.cell? ⟨gb696, 2, none⟩ = some (.slice Ao22 t707.length co22) := (za8 BK696.out 2).trans rfl
                                have hfz104_0 := za4 BK696.out 0
                                have hfz104_1 := za4 BK696.out 1
                                have hfz104_2 := za4 BK696.out 2
                                go_wp2_with (first | ((with_reducible refine zah (f := 26) rfl ?_); refine zay (some 87) rfl rfl Try.func26 (by kernel_rfl) rfl #[.agg #[.int .i64 t688, .slice Ao21 t706.length co21, .slice Ao22 t707.length co22], .int .i64 1] rfl (by (try simp only [List.map_toArray, List.map_cons, List.map_nil]); first | done | rfl | (simp only [List.length_drop, List.length_take]; rfl)) ?_; (with_reducible refine (laws_heldPlan.calls kj64 t688 _ _ t706 _ _ t707 1 t722 _ ?side1 ?side2 ?side3 ?side4 A95.out).mono ?_); (case side1 => repeat (first | exact (Kd.R_reads' HO_697001.out).2.2 | (with_reducible refine Kd.zar ?_ _) | (with_reducible refine Kd.zao ?_ _) | (with_reducible refine Kd.zau ?_))); (case side2 => exact (Kd.R_reads' HO_697001.out).2.1); (case side3 => repeat (first | exact (Kd.R_reads' HO_697002.out).2.2 | (with_reducible refine Kd.zar ?_ _) | (with_reducible refine Kd.zao ?_ _) | (with_reducible refine Kd.zau ?_))); (case side4 => exact (Kd.R_reads' HO_697002.out).2.1); rintro e w105 ⟨rfl, hb⟩; refine ⟨_, rfl, ?_⟩; have n0_ := Aside0.mk (Kd.zal (by (with_reducible repeat (first | apply Kd.za9 | apply Kd.zaa | apply Kd.zac)); exact HO_685001.out) hb); have n1_ := Aside0.mk (Kd.zal (by (with_reducible repeat (first | apply Kd.za9 | apply Kd.zaa | apply Kd.zac)); exact HO_685002.out) hb); have n2_ := Aside0.mk (Kd.zal (by (with_reducible repeat (first | apply Kd.za9 | apply Kd.zaa | apply Kd.zac)); exact HO_697001.out) hb); have n3_ := Aside0.mk (Kd.zal (by (with_reducible repeat (first | apply Kd.za9 | apply Kd.zaa | apply Kd.zac)); exact HO_697002.out) hb); have n4_ := Aside0.mk (Kd.zal (by (with_reducible repeat (first | apply Kd.za9 | apply Kd.zaa | apply Kd.zac)); exact HO_721001.out) hb); have n5_ := Aside0.mk (Kd.zal (by (with_reducible repeat (first | apply Kd.za9 | apply Kd.zaa | apply Kd.zac)); exact HO_721002.out) hb); have n6_ := Aside0.mk (zae (g := gb684) (o := .cells #[.int .i64 t676, .slice Ao13 t677.length co13, .slice Ao14 t680.length co14] 36 (0, 0)) (by (with_reducible repeat (first | refine za5 ?_ _ | refine za7 ?_ | refine za6 ?_ _)); exact BK684.out) hb); have n7_ := Aside0.mk (zae (g := gb696) (o := .cells #[.int .i64 t688, .slice Ao21 t706.length co21, .slice Ao22 t707.length co22] 36 (0, 0)) (by (with_reducible repeat (first | refine za5 ?_ _ | refine za7 ?_ | refine za6 ?_ _)); exact BK696.out) hb); have n8_ := Aside0.mk (zae (g := gb720) (o := .cells #[.int .i64 t712, .slice Ao78 t713.length co78, .slice Ao79 t716.length co79] 36 (0, 0)) (by (with_reducible repeat (first | refine za5 ?_ _ | refine za7 ?_ | refine za6 ?_ _)); exact BK720.out) hb); have n9_ := Aside0.mk (zaf (by repeat (first | (with_reducible first | exact HB.out | apply za1 | apply za0 | apply za2 | refine za3 ?_ GE684.out | refine za3 ?_ GE696.out | refine za3 ?_ GE720.out) | exact HB.out)) hb); clear HO_685001; clear HO_685002; clear HO_697001; clear HO_697002; clear HO_721001; clear HO_721002; clear BK684; clear BK696; clear BK720; clear HB; have HO_685001 := n0_; have HO_685002 := n1_; have HO_697001 := n2_; have HO_697002 := n3_; have HO_721001 := n4_; have HO_721002 := n5_; have BK684 := n6_; have BK696 := n7_; have BK720 := n8_; have HB := n9_; clear n0_ n1_ n2_ n3_ n4_ n5_ n6_ n7_ n8_ n9_; (try clear hb); (try clear hb2); (try clear hk); (try clear hi)))
                                go_ret
                                exact ⟨by first | rfl | (simp [zai, zaj] <;> rfl) | (simp [*, zai, zaj] <;> rfl), by repeat (first | (with_reducible first | exact HB.out | apply za1 | apply za0 | apply za2 | refine za3 ?_ GE684.out | refine za3 ?_ GE696.out | refine za3 ?_ GE720.out) | exact HB.out)⟩
                              · rw [if_neg c101] at H
                                have c101b0 : (t722 == t705) = false := beq_eq_false_iff_ne.mpr c101
                                have c101b1 : (t722 != t705) = true := bne_iff_ne.mpr c101
                                obtain rfl := Option.some.inj H
                                have hnb106 := NB696_684.out
                                have hnc106 := NB684_696.out
                                have hnb107 := NB696_720.out
                                have hnc107 := NB720_696.out
                                have hcz108_0 : wc.cell? ⟨gb696, 0, none⟩ = some (.int .i64 t688) := (za8 BK696.out 0).trans rfl
                                have hcz108_1 : wc.cell? ⟨gb696, 1, none⟩ = some (.slice Ao21 t706.length co21) := (za8 BK696.out 1).trans rfl
                                have hcz108_2 : wc.cell? ⟨gb696, 2, none⟩ = some (.slice Ao22 t707.length co22) := (za8 BK696.out 2).trans rfl
                                have hfz108_0 := za4 BK696.out 0
                                have hfz108_1 := za4 BK696.out 1
                                have hfz108_2 := za4 BK696.out 2
                                go_wp2_with (first | ((with_reducible refine zah (f := 26) rfl ?_); refine zay (some 87) rfl rfl Try.func26 (by kernel_rfl) rfl #[.agg #[.int .i64 t688, .slice Ao21 t706.length co21, .slice Ao22 t707.length co22], .int .i64 1] rfl (by (try simp only [List.map_toArray, List.map_cons, List.map_nil]); first | done | rfl | (simp only [List.length_drop, List.length_take]; rfl)) ?_; (with_reducible refine (laws_heldPlan.calls kj64 t688 _ _ t706 _ _ t707 1 t722 _ ?side1 ?side2 ?side3 ?side4 A95.out).mono ?_); (case side1 => repeat (first | exact (Kd.R_reads' HO_697001.out).2.2 | (with_reducible refine Kd.zar ?_ _) | (with_reducible refine Kd.zao ?_ _) | (with_reducible refine Kd.zau ?_))); (case side2 => exact (Kd.R_reads' HO_697001.out).2.1); (case side3 => repeat (first | exact (Kd.R_reads' HO_697002.out).2.2 | (with_reducible refine Kd.zar ?_ _) | (with_reducible refine Kd.zao ?_ _) | (with_reducible refine Kd.zau ?_))); (case side4 => exact (Kd.R_reads' HO_697002.out).2.1); rintro e w109 ⟨rfl, hb⟩; refine ⟨_, rfl, ?_⟩; have n0_ := Aside0.mk (Kd.zal (by (with_reducible repeat (first | apply Kd.za9 | apply Kd.zaa | apply Kd.zac)); exact HO_685001.out) hb); have n1_ := Aside0.mk (Kd.zal (by (with_reducible repeat (first | apply Kd.za9 | apply Kd.zaa | apply Kd.zac)); exact HO_685002.out) hb); have n2_ := Aside0.mk (Kd.zal (by (with_reducible repeat (first | apply Kd.za9 | apply Kd.zaa | apply Kd.zac)); exact HO_697001.out) hb); have n3_ := Aside0.mk (Kd.zal (by (with_reducible repeat (first | apply Kd.za9 | apply Kd.zaa | apply Kd.zac)); exact HO_697002.out) hb); have n4_ := Aside0.mk (Kd.zal (by (with_reducible repeat (first | apply Kd.za9 | apply Kd.zaa | apply Kd.zac)); exact HO_721001.out) hb); have n5_ := Aside0.mk (Kd.zal (by (with_reducible repeat (first | apply Kd.za9 | apply Kd.zaa | apply Kd.zac)); exact HO_721002.out) hb); have n6_ := Aside0.mk (zae (g := gb684) (o := .cells #[.int .i64 t676, .slice Ao13 t677.length co13, .slice Ao14 t680.length co14] 36 (0, 0)) (by (with_reducible repeat (first | refine za5 ?_ _ | refine za7 ?_ | refine za6 ?_ _)); exact BK684.out) hb); have n7_ := Aside0.mk (zae (g := gb696) (o := .cells #[.int .i64 t688, .slice Ao21 t706.length co21, .slice Ao22 t707.length co22] 36 (0, 0)) (by (with_reducible repeat (first | refine za5 ?_ _ | refine za7 ?_ | refine za6 ?_ _)); exact BK696.out) hb); have n8_ := Aside0.mk (zae (g := gb720) (o := .cells #[.int .i64 t712, .slice Ao78 t713.length co78, .slice Ao79 t716.length co79] 36 (0, 0)) (by (with_reducible repeat (first | refine za5 ?_ _ | refine za7 ?_ | refine za6 ?_ _)); exact BK720.out) hb); have n9_ := Aside0.mk (zaf (by repeat (first | (with_reducible first | exact HB.out | apply za1 | apply za0 | apply za2 | refine za3 ?_ GE684.out | refine za3 ?_ GE696.out | refine za3 ?_ GE720.out) | exact HB.out)) hb); clear HO_685001; clear HO_685002; clear HO_697001; clear HO_697002; clear HO_721001; clear HO_721002; clear BK684; clear BK696; clear BK720; clear HB; have HO_685001 := n0_; have HO_685002 := n1_; have HO_697001 := n2_; have HO_697002 := n3_; have HO_721001 := n4_; have HO_721002 := n5_; have BK684 := n6_; have BK696 := n7_; have BK720 := n8_; have HB := n9_; clear n0_ n1_ n2_ n3_ n4_ n5_ n6_ n7_ n8_ n9_; (try clear hb); (try clear hb2); (try clear hk); (try clear hi)))
                                go_ret
                                exact ⟨by first | rfl | (simp [zai, zaj] <;> rfl) | (simp [*, zai, zaj] <;> rfl), by repeat (first | (with_reducible first | exact HB.out | apply za1 | apply za0 | apply za2 | refine za3 ?_ GE684.out | refine za3 ?_ GE696.out | refine za3 ?_ GE720.out) | exact HB.out)⟩
                    · rw [if_neg c62] at H
                      have c62b0 : (t708 == t705) = false := beq_eq_false_iff_ne.mpr c62
                      have c62b1 : (t708 != t705) = true := bne_iff_ne.mpr c62
                      obtain rfl := Option.some.inj H
                      have hnb110 := NB696_684.out
                      have hnc110 := NB684_696.out
                      have hcz111_0 : wc.cell? ⟨gb696, 0, none⟩ = some (.int .i64 t688) := (za8 BK696.out 0).trans rfl
                      have hcz111_1 : wc.cell? ⟨gb696, 1, none⟩ = some (.slice Ao21 t689.length co21) := (za8 BK696.out 1).trans rfl
                      have hcz111_2 : wc.cell? ⟨gb696, 2, none⟩ = some (.slice Ao22 t692.length co22) := (za8 BK696.out 2).trans rfl
                      have hfz111_0 := za4 BK696.out 0
                      have hfz111_1 := za4 BK696.out 1
                      have hfz111_2 := za4 BK696.out 2
                      go_wp2_with (first | ((with_reducible refine zah (f := 25) rfl ?_); refine zay (some 61) rfl rfl Try.func25 (by kernel_rfl) rfl #[.agg #[.int .i64 t688, .slice Ao21 t689.length co21, .slice Ao22 t692.length co22], .int .i64 1] rfl (by (try simp only [List.map_toArray, List.map_cons, List.map_nil]); first | done | rfl | (simp only [List.length_drop, List.length_take]; rfl)) ?_; (with_reducible refine (laws_markPlan.calls kj37 t688 (fun k_ => some k_ = (.slice Ao21 t689.length co21 : Value).ownBlock) (.slice Ao21 t689.length co21) t689 (fun k_ => some k_ = (.slice Ao22 t692.length co22 : Value).ownBlock) (.slice Ao22 t692.length co22) t692 1 t705 t706 t707 w _ ?side1 ?side2 ?side3 A54.out).mono ?_); (case side1 => repeat (first | (with_reducible first | exact HB.out | apply za1 | apply za0 | apply za2 | refine za3 ?_ GE684.out | refine za3 ?_ GE696.out) | exact HB.out)); (case side2 => exact Kd.R_tight rfl HO_697001.out); (case side3 => exact Kd.R_tight rfl HO_697002.out); rintro e w112 ⟨rfl, hy0, hy1, hb, hkp⟩; refine ⟨_, rfl, ?_⟩; have n0_ := Aside0.mk (Kd.zak (ok' := fun k_ => some k_ ≠ (.slice Ao21 t689.length co21 : Value).ownBlock) (Kd.R_keptB ((Kd.R_apart' HO_685001.out (Kd.R_typed HO_697002.out) (by decide))) hkp (fun k_ hk_ hs_ => Or.elim hs_ (fun e_ => (hk_.1) e_) (fun e_ => (hk_.2) e_))) (fun k_ hk_ => hk_.1.1)); have n1_ := Aside0.mk (Kd.zak (ok' := fun k_ => some k_ ≠ (.slice Ao22 t692.length co22 : Value).ownBlock) (Kd.R_keptB ((Kd.R_apart' HO_685002.out (Kd.R_typed HO_697001.out) (by decide))) hkp (fun k_ hk_ hs_ => Or.elim hs_ (fun e_ => (hk_.2) e_) (fun e_ => (hk_.1) e_))) (fun k_ hk_ => hk_.1.1)); have n2_ := Aside0.mk (Kd.R_reok rfl hy0 (fun k_ e_ => HO_697001.out.1 k_ e_)); have n3_ := Aside0.mk (Kd.R_reok rfl hy1 (fun k_ e_ => HO_697002.out.1 k_ e_)); have n4_ := Aside0.mk (blk_kept (by (with_reducible repeat (first | refine za5 ?_ _ | refine za7 ?_ | refine za6 ?_ _)); exact BK684.out) hkp (fun hs_ => Or.elim hs_ (fun e_ => (fun e_ => (Kd.R_ne HO_697001.out BK684.out (by decide)) e_) e_) (fun e_ => (fun e_ => (Kd.R_ne HO_697002.out BK684.out (by decide)) e_) e_))); have n5_ := Aside0.mk (blk_kept (by (with_reducible repeat (first | refine za5 ?_ _ | refine za7 ?_ | refine za6 ?_ _)); exact BK696.out) hkp (fun hs_ => Or.elim hs_ (fun e_ => (fun e_ => (Kd.R_ne HO_697001.out BK696.out (by decide)) e_) e_) (fun e_ => (fun e_ => (Kd.R_ne HO_697002.out BK696.out (by decide)) e_) e_))); have n6_ := Aside0.mk (hb); clear HO_685001; clear HO_685002; clear HO_697001; clear HO_697002; clear BK684; clear BK696; clear HB; have HO_685001 := n0_; have HO_685002 := n1_; have HO_697001 := n2_; have HO_697002 := n3_; have BK684 := n4_; have BK696 := n5_; have HB := n6_; clear n0_ n1_ n2_ n3_ n4_ n5_ n6_; (try clear hb); (try clear hkp); (try clear hy0); (try clear hy1); have hcz113_0 : w112.cell? ⟨gb696, 0, none⟩ = some (.int .i64 t688) := (za8 BK696.out 0).trans rfl; have hcz113_1 : w112.cell? ⟨gb696, 1, none⟩ = some (.slice Ao21 t689.length co21) := (za8 BK696.out 1).trans rfl; have hcz113_2 : w112.cell? ⟨gb696, 2, none⟩ = some (.slice Ao22 t692.length co22) := (za8 BK696.out 2).trans rfl; have hfz113_0 := za4 BK696.out 0; have hfz113_1 := za4 BK696.out 1; have hfz113_2 := za4 BK696.out 2) | ((with_reducible refine zah (f := 26) rfl ?_); refine zay (some 64) rfl rfl Try.func26 (by kernel_rfl) rfl #[.agg #[.int .i64 t688, .slice Ao21 t706.length co21, .slice Ao22 t707.length co22], .int .i64 1] rfl (by (try simp only [List.map_toArray, List.map_cons, List.map_nil]); first | done | (rw [show t706.length = t689.length from (Kd.R_reads' HO_697001.out).1.symm, show t707.length = t692.length from (Kd.R_reads' HO_697002.out).1.symm] <;> rfl) | rfl | (simp only [List.length_drop, List.length_take]; rfl)) ?_; (with_reducible refine (laws_heldPlan.calls kj37 t688 _ _ t706 _ _ t707 1 t708 _ ?side1 ?side2 ?side3 ?side4 A55.out).mono ?_); (case side1 => repeat (first | exact (Kd.R_reads' HO_697001.out).2.2 | (with_reducible refine Kd.zar ?_ _) | (with_reducible refine Kd.zao ?_ _) | (with_reducible refine Kd.zau ?_))); (case side2 => rw [show t706.length = t689.length from (Kd.R_reads' HO_697001.out).1.symm]; exact (Kd.R_reads' HO_697001.out).2.1); (case side3 => repeat (first | exact (Kd.R_reads' HO_697002.out).2.2 | (with_reducible refine Kd.zar ?_ _) | (with_reducible refine Kd.zao ?_ _) | (with_reducible refine Kd.zau ?_))); (case side4 => rw [show t707.length = t692.length from (Kd.R_reads' HO_697002.out).1.symm]; exact (Kd.R_reads' HO_697002.out).2.1); rintro e w114 ⟨rfl, hb⟩; refine ⟨_, rfl, ?_⟩; have n0_ := Aside0.mk (Kd.zal (by (with_reducible repeat (first | apply Kd.za9 | apply Kd.zaa | apply Kd.zac)); exact HO_685001.out) hb); have n1_ := Aside0.mk (Kd.zal (by (with_reducible repeat (first | apply Kd.za9 | apply Kd.zaa | apply Kd.zac)); exact HO_685002.out) hb); have n2_ := Aside0.mk (Kd.zal (by (with_reducible repeat (first | apply Kd.za9 | apply Kd.zaa | apply Kd.zac)); exact HO_697001.out) hb); have n3_ := Aside0.mk (Kd.zal (by (with_reducible repeat (first | apply Kd.za9 | apply Kd.zaa | apply Kd.zac)); exact HO_697002.out) hb); have n4_ := Aside0.mk (zae (g := gb684) (o := .cells #[.int .i64 t676, .slice Ao13 t677.length co13, .slice Ao14 t680.length co14] 36 (0, 0)) (by (with_reducible repeat (first | refine za5 ?_ _ | refine za7 ?_ | refine za6 ?_ _)); exact BK684.out) hb); have n5_ := Aside0.mk (zae (g := gb696) (o := .cells #[.int .i64 t688, .slice Ao21 t689.length co21, .slice Ao22 t692.length co22] 36 (0, 0)) (by (with_reducible repeat (first | refine za5 ?_ _ | refine za7 ?_ | refine za6 ?_ _)); exact BK696.out) hb); have n6_ := Aside0.mk (zaf (by repeat (first | (with_reducible first | exact HB.out | apply za1 | apply za0 | apply za2 | refine za3 ?_ GE684.out | refine za3 ?_ GE696.out) | exact HB.out)) hb); clear HO_685001; clear HO_685002; clear HO_697001; clear HO_697002; clear BK684; clear BK696; clear HB; have HO_685001 := n0_; have HO_685002 := n1_; have HO_697001 := n2_; have HO_697002 := n3_; have BK684 := n4_; have BK696 := n5_; have HB := n6_; clear n0_ n1_ n2_ n3_ n4_ n5_ n6_; (try clear hb); (try clear hb2); (try clear hk); (try clear hi)))
                      go_ret
                      exact ⟨by first | rfl | (simp [zai, zaj] <;> rfl) | (simp [*, zai, zaj] <;> rfl), by repeat (first | (with_reducible first | exact HB.out | apply za1 | apply za0 | apply za2 | refine za3 ?_ GE684.out | refine za3 ?_ GE696.out) | exact HB.out)⟩
          · replace c36 := Bool.eq_false_iff.mpr c36
            subst c36
            have H1 : (some false) = some r := by rw [if_neg (show ¬ (false = true) by decide)] at H; exact H
            clear H
            have H := H1
            clear H1
            obtain rfl := Option.some.inj H
            go_wp2_with (first | ((with_reducible refine zah (f := 28) rfl ?_); refine zay (some 40) rfl rfl Try.func28 (by kernel_rfl) rfl #[.slice A0 l0.length c0] rfl (by (try simp only [List.map_toArray, List.map_cons, List.map_nil]); first | done | rfl | (simp only [List.length_drop, List.length_take]; rfl)) ?_; (with_reducible refine (laws_toIntS.calls kj6 _ _ l0 t698 _ ?side1 ?side2 A34.out).mono ?_); (case side1 => repeat (first | exact (Kd.zav HR0.out HB.out) | (with_reducible refine Kd.zar ?_ _) | (with_reducible refine Kd.zao ?_ _) | (with_reducible refine Kd.zau ?_))); (case side2 => exact HC0.out); rintro e w115 ⟨v699, rfl, ho0, hb⟩; refine ⟨_, rfl, ?_⟩; have n0_ := Aside0.mk (Kd.R_elder' (by (with_reducible repeat (first | apply Kd.za9 | apply Kd.zaa | apply Kd.zac)); exact HO_5.out) (Kd.R_base ho0) hb); have n1_ := Aside0.mk (Kd.zal (by (with_reducible repeat (first | apply Kd.za9 | apply Kd.zaa | apply Kd.zac)); exact HO_685001.out) hb); have n2_ := Aside0.mk (Kd.R_elder' (by (with_reducible repeat (first | apply Kd.za9 | apply Kd.zaa | apply Kd.zac)); exact HO_685002.out) (Kd.R_base ho0) hb); have n3_ := Aside0.mk (Kd.zal (by (with_reducible repeat (first | apply Kd.za9 | apply Kd.zaa | apply Kd.zac)); exact HO_697001.out) hb); have n4_ := Aside0.mk (Kd.R_elder' (by (with_reducible repeat (first | apply Kd.za9 | apply Kd.zaa | apply Kd.zac)); exact HO_697002.out) (Kd.R_base ho0) hb); have n5_ := Aside0.mk (Kd.R_lower (Kd.R_new' (Kd.R_new' (Kd.R_new' ho0 (Kd.R_lt (by (with_reducible repeat (first | apply Kd.za9 | apply Kd.zaa | apply Kd.zac)); exact HO_5.out))) (Kd.R_lt (by (with_reducible repeat (first | apply Kd.za9 | apply Kd.zaa | apply Kd.zac)); exact HO_685002.out))) (Kd.R_lt (by (with_reducible repeat (first | apply Kd.za9 | apply Kd.zaa | apply Kd.zac)); exact HO_697002.out))) (zad (by repeat (first | (with_reducible first | exact HB.out | apply za1 | apply za0 | apply za2 | refine za3 ?_ GE684.out | refine za3 ?_ GE696.out) | exact HB.out)))); have n6_ := Aside0.mk (zae (g := gb684) (o := .cells #[.int .i64 t676, .slice Ao13 t677.length co13, .slice Ao14 t680.length co14] 36 (0, 0)) (by (with_reducible repeat (first | refine za5 ?_ _ | refine za7 ?_ | refine za6 ?_ _)); exact BK684.out) hb); have n7_ := Aside0.mk (zae (g := gb696) (o := .cells #[.int .i64 t688, .slice Ao21 t689.length co21, .slice Ao22 t692.length co22] 36 (0, 0)) (by (with_reducible repeat (first | refine za5 ?_ _ | refine za7 ?_ | refine za6 ?_ _)); exact BK696.out) hb); have n8_ := Aside0.mk (zaf (by repeat (first | (with_reducible first | exact HB.out | apply za1 | apply za0 | apply za2 | refine za3 ?_ GE684.out | refine za3 ?_ GE696.out) | exact HB.out)) hb); clear HO_5; clear HO_685001; clear HO_685002; clear HO_697001; clear HO_697002; clear BK684; clear BK696; clear HB; have HO_5 := n0_; have HO_685001 := n1_; have HO_685002 := n2_; have HO_697001 := n3_; have HO_697002 := n4_; have HO700 := n5_; have BK684 := n6_; have BK696 := n7_; have HB := n8_; clear n0_ n1_ n2_ n3_ n4_ n5_ n6_ n7_ n8_; (try clear hb); (try clear hb2); (try clear hk); (try clear hi); (try clear ho0); obtain ⟨Ao116, co116, eo116⟩ := Kd.zax HO700.out; subst eo116) | ((with_reducible refine zah (f := 30) rfl ?_); refine zay (some 41) rfl rfl Try.func30 (by kernel_rfl) rfl #[.slice Ao16 t685.length co16, .slice Ao116 t698.length co116] rfl (by (try simp only [List.map_toArray, List.map_cons, List.map_nil]); first | done | rfl | (simp only [List.length_drop, List.length_take]; rfl)) ?_; (with_reducible refine (laws_eqIntS.calls kj6 _ _ t685 _ _ t698 false _ ?side1 ?side2 ?side3 ?side4 A35.out).mono ?_); (case side1 => repeat (first | exact (Kd.R_reads' HO_5.out).2.2 | (with_reducible refine Kd.zar ?_ _) | (with_reducible refine Kd.zao ?_ _) | (with_reducible refine Kd.zau ?_))); (case side2 => exact (Kd.R_reads' HO_5.out).2.1); (case side3 => repeat (first | exact (Kd.R_reads' HO700.out).2.2 | (with_reducible refine Kd.zar ?_ _) | (with_reducible refine Kd.zao ?_ _) | (with_reducible refine Kd.zau ?_))); (case side4 => exact (Kd.R_reads' HO700.out).2.1); rintro e w' ⟨rfl, ⟨nd, rfl⟩⟩; refine ⟨_, rfl, ?_⟩))
            go_ret
            exact ⟨by first | rfl | (simp [zai, zaj] <;> rfl) | (simp [*, zai, zaj] <;> rfl), by repeat (first | (with_reducible first | exact HB.out | apply za1 | apply za0 | apply za2 | refine za3 ?_ GE684.out | refine za3 ?_ GE696.out) | exact HB.out)⟩

/-- THE ONE PURE STATEMENT of laws_FnExactSquaresPlan: yours. -/
def laws_FnExactSquaresPlan.Pure : Prop := ∀ (l0 : List Int), l0.length ≤ maxLen → l0.length * 8 ≤ 140737488351232 → (∀ x ∈ l0, (Lit.int .i64 x).wf = true) → ∃ k, laws_FnExactSquaresPlan.f k l0 = some true
theorem laws_FnExactSquaresPlan.walk (P : laws_FnExactSquaresPlan.Pure) (a0 : Option Addr) (len0 cap0 : Nat) (z0 : List Int) (w : World) (w0 : (a0 = none ∧ len0 = 0 ∧ cap0 = 0 ∧ z0 = []) ∨ ∃ x, a0 = some x ∧ len0 ≤ cap0 ∧ cap0 ≤ maxLen ∧ z0.length = cap0 ∧ (∀ i, i < z0.length → w.cell? (x.add i) = some (.int .i64 (z0.getD i 0))) ∧ ∀ n ∈ z0, (Lit.int .i64 n).wf = true) (y0 : len0 * 8 ≤ 140737488351232) :
    Calls Try.prog 7 #[.slice a0 len0 cap0] w fun e w' => e = .returned (.bool true) ∧ Below w.heap.size w w' := by
  obtain ⟨l0, rfl, hr0, hm0, hw0, hc0⟩ := ReadsInt.ofRowC w0
  obtain ⟨k, h⟩ := P l0 hm0 y0 hw0
  refine (laws_FnExactSquaresPlan.calls k _ _ l0 true w (Kd.C_of_reads (d := (0 : Int)) (h1 := fun _ => rfl) hr0) hc0 h).mono ?_
  rintro e w' ⟨rfl, hd⟩
  exact ⟨rfl, hd⟩

end Go.Proofs.Ytpdpomjgfmdjfaa.Z
