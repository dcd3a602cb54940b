/- slices.Sorted(slices.Values(list)) of whole numbers: a new row, in order. -/
import Derived.Test.YtobaolbilllfgaaKFnRunsOfPermutationsOpr
import Derived.Test.YtobaolbilllfgaaKFnRunsOfPermutationsWMore
import Derived.Shelf.SortM.Plain
import Derived.Shelf.SortM.SortNone
import Derived.Sort.OwnSortedInts
import Derived.Test.YtobaolbilllfgaaProg
import Derived.KernelRfl
namespace Go.Proofs.Ytobaolbilllfgaa.Srt
open Go.RowKit Go.Sort Go.Shelf Go.Proofs Go.Proofs.Ytobaolbilllfgaa.Frame Go.Proofs.YtobaolbilllfgaaW.PrintLast
open Go.Proofs.YtobaolbilllfgaaW.PrintWords hiding mn mx
set_option linter.unusedVariables false
def sortL_ren : Go.Shelf.Ren := ⟨fun | 5 => 72 | 8 => 76 | 7 => 75 | 19 => 86 | 20 => 87 | 10 => 77 | 11 => 78 | 12 => 79 | 13 => 80 | 14 => 81 | 15 => 82 | 16 => 83 | 17 => 84 | 18 => 85 | 30 => 88 | 31 => 89 | 32 => 90 | 33 => 91 | 34 => 92 | 35 => 93 | 40 => 94 | n => n, fun | 23 => 25 | 25 => 3 | 3 => 3 | 32 => 80 | 22 => 25 | 0 => 0 | 44 => 95 | 46 => 42 | 4 => 4 | 36 => 88 | 35 => 87 | 41 => 92 | 5 => 5 | 9 => 9 | 53 => 97 | 57 => 101 | 63 => 103 | 64 => 104 | n => n, fun | n => n⟩
theorem sortL : Go.Proofs.SlLaysM.n5 Try.prog sortL_ren := {
  mixed := by kernel_rfl
  f5 := ⟨Try.f72.name, by decide, Try.func72.trans (congrArg some (by kernel_rfl))⟩
  f7 := ⟨Try.f75.name, by decide, Try.func75.trans (congrArg some (by kernel_rfl))⟩
  f8 := Try.func76.trans (congrArg some (by kernel_rfl))
  f10 := ⟨Try.f77.name, by decide, Try.func77.trans (congrArg some (by kernel_rfl))⟩
  f11 := ⟨Try.f78.name, by decide, Try.func78.trans (congrArg some (by kernel_rfl))⟩
  f12 := ⟨Try.f79.name, by decide, Try.func79.trans (congrArg some (by kernel_rfl))⟩
  f13 := ⟨Try.f80.name, by decide, Try.func80.trans (congrArg some (by kernel_rfl))⟩
  f14 := ⟨Try.f81.name, by decide, Try.func81.trans (congrArg some (by kernel_rfl))⟩
  f15 := ⟨Try.f82.name, by decide, Try.func82.trans (congrArg some (by kernel_rfl))⟩
  f16 := ⟨Try.f83.name, by decide, Try.func83.trans (congrArg some (by kernel_rfl))⟩
  f17 := ⟨Try.f84.name, by decide, Try.func84.trans (congrArg some (by kernel_rfl))⟩
  f18 := ⟨Try.f85.name, by decide, Try.func85.trans (congrArg some (by kernel_rfl))⟩
  f19 := Try.func86.trans (congrArg some (by kernel_rfl))
  f20 := Try.func87.trans (congrArg some (by kernel_rfl))
  f30 := ⟨Try.f88.name, by decide, Try.func88.trans (congrArg some (by kernel_rfl))⟩
  f31 := Try.func89.trans (congrArg some (by kernel_rfl))
  f32 := Try.func90.trans (congrArg some (by kernel_rfl))
  f33 := ⟨Try.f91.name, by decide, Try.func91.trans (congrArg some (by kernel_rfl))⟩
  f34 := ⟨Try.f92.name, by decide, Try.func92.trans (congrArg some (by kernel_rfl))⟩
  f35 := ⟨Try.f93.name, by decide, Try.func93.trans (congrArg some (by kernel_rfl))⟩
  f40 := ⟨Try.f94.name, by decide, Try.func94.trans (congrArg some (by kernel_rfl))⟩
  t0 := Try.underlying0
  a0 := Try.isAgg0
  z0 := Try.sizeOf0
  v0 := Try.zeroValue0
  t3 := Try.underlying3
  a3 := Try.isAgg3
  z3 := Try.sizeOf3
  v3 := Try.zeroValue3
  t4 := Try.underlying4
  a4 := Try.isAgg4
  z4 := Try.sizeOf4
  v4 := Try.zeroValue4
  t5 := Try.underlying5
  a5 := Try.isAgg5
  z5 := Try.sizeOf5
  v5 := Try.zeroValue5
  t9 := Try.underlying9
  a9 := Try.isAgg9
  z9 := Try.sizeOf9
  v9 := Try.zeroValue9
  t22 := Try.underlying25
  a22 := Try.isAgg25
  z22 := Try.sizeOf25
  v22 := Try.zeroValue25
  t23 := Try.underlying25
  a23 := Try.isAgg25
  z23 := Try.sizeOf25
  v23 := Try.zeroValue25
  t25 := Try.underlying3
  a25 := Try.isAgg3
  z25 := Try.sizeOf3
  v25 := Try.zeroValue3
  t32 := Try.underlying80
  a32 := Try.isAgg80
  z32 := Try.sizeOf80
  v32 := Try.zeroValue80
  t35 := Try.underlying87
  a35 := Try.isAgg87
  z35 := Try.sizeOf87
  v35 := Try.zeroValue87
  t36 := Try.underlying88
  a36 := Try.isAgg88
  z36 := Try.sizeOf88
  v36 := Try.zeroValue88
  t41 := Try.underlying92
  a41 := Try.isAgg92
  z41 := Try.sizeOf92
  v41 := Try.zeroValue92
  t44 := Try.underlying95
  a44 := Try.isAgg95
  z44 := Try.sizeOf95
  v44 := Try.zeroValue95
  t46 := Try.underlying42
  a46 := Try.isAgg42
  z46 := Try.sizeOf42
  v46 := Try.zeroValue42
  t53 := Try.underlying97
  a53 := Try.isAgg97
  z53 := Try.sizeOf97
  v53 := Try.zeroValue97
  t57 := Try.underlying101
  a57 := Try.isAgg101
  z57 := Try.sizeOf101
  v57 := Try.zeroValue101
  t63 := Try.underlying103
  a63 := Try.isAgg103
  z63 := Try.sizeOf103
  v63 := Try.zeroValue103
  t64 := Try.underlying104
  a64 := Try.isAgg104
  z64 := Try.sizeOf104
  v64 := Try.zeroValue104 }
theorem I3 : (Try.prog.info? 3).map (fun i => (i.zero, i.size, i.bytes)) = some (some (.int .i64 0), 1, 8) := by kernel_rfl
theorem N71 : (Try.f71.name == "runtime.NumGoroutine") = false := by kernel_rfl
theorem N72 : (Try.f72.name == "runtime.NumGoroutine") = false := by kernel_rfl
theorem N73 : (Try.f73.name == "runtime.NumGoroutine") = false := by kernel_rfl
theorem N74 : (Try.f74.name == "runtime.NumGoroutine") = false := by kernel_rfl
theorem Y25 : cellTy (Try.prog.underlying 25) = true := by kernel_rfl
theorem Y3 : cellTy (Try.prog.underlying 3) = true := by kernel_rfl
theorem Z25 : (Try.prog.info? 25).map (·.size) = some 1 := by kernel_rfl
theorem Z3 : (Try.prog.info? 3).map (·.size) = some 1 := by kernel_rfl
/-! ### slices.Values, AppendSeq, Collect, Sort, Sorted at []int -/
theorem vlc.calls {w0 ws : World} {P0 : Nat → Prop} (A : Option Addr) (n c : Nat) (hF : Fr w0 ws P0 [] ws) : Calls Try.prog 68 #[.slice A n c] ws (Post1 w0 ws P0 (fun (q : Nat) => .func (.func 73) #[] #[.pointer (some ⟨q, 0, none⟩)]) (fun (q : Nat) => [box q 25 #[.slice A n c]])) := by
  refine enter Try.func68 rfl Try.ntmps68 rfl hF ?_
  refine c_seq ?_
  refine za0 ?_
  refine o_e rfl (e_box rfl) (fun g1 => ?_)
  refine o_q rfl rfl (q_asg rfl) ?_
  refine o_end ?_
  refine za1 ?_
  refine c_seq ?_
  refine za0 ?_
  refine o_q rfl rfl (q_func (f := .func 73) (a := []) (b := [.tmp 1]) rfl rfl) ?_
  refine o_q rfl rfl (q_asg rfl) ?_
  refine o_end ?_
  refine za1 ?_
  refine c_ret ?_
  exact x_r1 g1 Try.results68 (zaa rfl) rfl (fun w h => h)
set_option maxRecDepth 100000 in
theorem vl_seq {w : World} {P1 : Nat → Prop} (Bs : Nat) (A : Option Addr) (cap : Nat) (zs : List Int) (hR : Stable w P1 (fun W => Kd.C (Kd.int .i64) W A zs.length zs)) (hB : Stable w P1 (fun W => W.heap[Bs]? = some (.cells #[.slice A zs.length cap] 25 (0, 0)))) :
    SeqStopsK Fence.wide 2 Try.prog 73 #[.pointer (some ⟨Bs, 0, none⟩)] (fun x : Int => #[Value.int .i64 x]) (KpS w P1) (fun ys => ys = zs) (fun _ => True) zs.length w := by
  intro l J Jx W hW hJ hJx hY h0
  have hk0 : KeptB w W P1 := ⟨⟨hW.size, fun i hi _ => hW.block i hi⟩, hW.os, hW.tape, hW.output⟩
  have hlen : zs.length ≤ 9223372036854775807 := (hR w (KeptB.refl _ _)).2.1
  refine enterG (m := 16) Try.func73 rfl Try.ntmps73 rfl ?_
  refine wpIn_seq (wpIn_region_list ?_)
  refine g_q (fun c hc => by cases hc) rfl rfl (q_ldb (bt := 25) Y25 rfl (fun w' h' => by subst h'; exact hB _ hk0) rfl) ?_
  refine g_q (fun c hc => by cases hc) rfl rfl (q_len Try.underlying25 rfl) ?_
  refine g_q (fun c hc => by cases hc) rfl rfl (za2 rfl) ?_
  refine wpListIn_nil ?_
  refine wpIn_block ?_
  refine wpIn_loop_ghost (fun m a W' => ∃ (e : Nat → Value) (j : Nat), j + m = zs.length ∧ a = act ⟨16, [], none⟩ e ∧ e 0 = .func (.yield l) #[] #[] ∧ e 5 = .slice A zs.length cap ∧ e 6 = .int .i64 (zs.length : Int) ∧ e 7 = .int .i64 (j : Int) ∧ J (zs.take j) W' ∧ KeptB w W' P1) zs.length ⟨_, 0, by omega, rfl, rfl, rfl, rfl, rfl, h0, hk0⟩ ?_
  rintro m a W' ⟨e, j, hm, rfl, he0, he5, he6, he7, hJp, hk⟩
  refine wpIn_seq (wpIn_region_list ?_)
  refine g_q (fun c hc => by cases hc) rfl rfl (q_lss he7 he6) ?_
  refine wpListIn_nil ?_
  cases m with
  | zero =>
    refine wpIn_seq (wpIn_cond_false ?_ (wpIn_exit ?_))
    · rw [act_eval]
      show Value.bool (decide ((j : Int) < (zs.length : Int))) = _
      rw [decide_eq_false (by omega)]
    refine exth (exth (inblk ?_))
    refine ⟨rfl, _, results_none rfl _ _ _, ⟨_, rfl⟩, .inl ⟨zs.take j, ?_, hJp⟩⟩
    exact List.take_of_length_le (by omega)
  | succ m =>
    refine wpIn_seq (wpIn_cond_true ?_ (wpIn_skip ?_))
    · rw [act_eval]
      show Value.bool (decide ((j : Int) < (zs.length : Int))) = _
      rw [decide_eq_true (by omega)]
    refine wpIn_seq (wpIn_block (wpIn_seq (wpIn_region_list ?_)))
    have hjl : j < zs.length := by omega
    have hC := hR W' hk
    refine g_q (fun c hc => by cases hc) rfl rfl (q_ix (xs := zs) Try.underlying25 Z3 he5 he7 (C_sh hC) (gt_at hjl)) ?_
    refine g_q (fun c hc => by cases hc) rfl rfl (q_lde (off := 0) Y3 rfl rfl (fun w' h' => by subst h'; exact hC) (gt_at hjl) (fun _ _ h => h) rfl) ?_
    refine g_q (fun c hc => by cases hc) rfl rfl (q_asg rfl) ?_
    refine wpListIn_nil ?_
    refine wpIn_seq (wpIn_region_list ?_)
    refine g_q (fun c hc => by cases hc) rfl rfl (za2 he0) ?_
    refine g_q (fun c hc => by cases hc) rfl rfl (za2 rfl) ?_
    have htl : (zs.take j).length = j := by rw [List.length_take]; omega
    refine g_yield1 rfl rfl rfl (hY (zs.take j) zs[j] W' hJp (by omega)) (fun e w' h => by rcases h with ⟨rfl, _⟩ | ⟨rfl, _⟩ <;> exact ⟨_, rfl⟩) ?_
    rintro v W3 (⟨hv, hJ3, hk3⟩ | ⟨hv, hJx3⟩)
    · obtain rfl := Ending.returned.inj hv
      refine g_q (fun c hc => by cases hc) rfl rfl (q_not rfl) ?_
      refine wpListIn_nil ?_
      refine wpIn_cond_false rfl (wpIn_skip ?_)
      refine wpIn_region_list ?_
      refine g_q (fun c hc => by cases hc) rfl rfl (q_add64 he7 rfl) ?_
      refine g_q (fun c hc => by cases hc) rfl rfl (za2 rfl) ?_
      refine wpListIn_nil ?_
      refine ⟨m, Nat.lt_succ_self m, _, j + 1, by omega, rfl, he0, he5, he6, ?_, ?_, hk3 hk⟩
      · show Value.int .i64 (w64 ((j : Int) + 1)) = _
        rw [w64_id (by omega)]
        rfl
      · rw [List.take_add_one, List.getElem?_eq_getElem hjl]
        exact hJ3
    · obtain rfl := Ending.returned.inj hv
      refine g_q (fun c hc => by cases hc) rfl rfl (q_not rfl) ?_
      refine wpListIn_nil ?_
      refine wpIn_cond_true rfl (wpIn_ret ?_)
      exact ⟨rfl, _, results_none rfl _ _ _, ⟨_, rfl⟩, .inr ⟨_, trivial, hJx3⟩⟩
theorem int_det {w : World} {A : Option Addr} {xs ys : List Int} (hl : xs.length = ys.length) (h : Kd.C (Kd.int .i64) w A xs.length xs) (h' : Kd.C (Kd.int .i64) w A ys.length ys) : xs = ys := by
  refine List.ext_getElem hl fun i h1 h2 => ?_
  obtain ⟨ad, rfl, hh⟩ := h.2.2 (by omega)
  obtain ⟨ad', e, hh'⟩ := h'.2.2 (by omega)
  cases e
  obtain ⟨c, _, hk, hcell⟩ := hh i _ (List.getElem?_eq_getElem h1)
  obtain ⟨c', _, hk', hcell'⟩ := hh' i _ (List.getElem?_eq_getElem h2)
  obtain rfl : c = [Value.int .i64 xs[i]] := hk
  obtain rfl : c' = [Value.int .i64 ys[i]] := hk'
  have a := hcell 0 _ rfl
  have b := hcell' 0 _ rfl
  rw [a] at b
  injection b with b
  injection b
/-- A box that holds a row of numbers: what it holds is one. -/
theorem obj_det {w0 w W : World} {P1 : Nat → Prop} {g t u : Nat} {xs ys : List Int} (h : Fr w0 w P1 [obj g t (fun v => #[v]) (Kd.int .i64) u xs] W) (h' : Fr w0 w P1 [obj g t (fun v => #[v]) (Kd.int .i64) u ys] W) : xs = ys := by
  obtain ⟨v, a⟩ := h.obj_open (i := 0) rfl
  obtain ⟨v', b⟩ := h'.obj_open (i := 0) rfl
  have e1 := a.zan (i := 1) rfl
  have e2 := b.zan (i := 1) rfl
  rw [e1] at e2
  have ev : v = v' := by
    injection e2 with e2
    injection e2 with e2
    have := congrArg (fun a => a[0]?) e2
    simpa using this
  subst ev
  obtain ⟨A, c, rfl, _, hC⟩ := a.row_reads (i := 0) rfl
  obtain ⟨A', c', hv, _, hC'⟩ := b.row_reads (i := 0) rfl
  injection hv with q1 q2 q3
  subst q1
  exact int_det q2 hC hC'
set_option maxHeartbeats 800000 in
set_option maxRecDepth 100000 in
theorem aps.calls {w0 ws : World} {P0 : Nat → Prop} (Bs : Nat) (A : Option Addr) (cap : Nat) (zs : List Int) (Z : Below w0.heap.size w0 ws) (hF : Fr w0 ws P0 [] ws) (hR : Stable ws P0 (fun W => Kd.C (Kd.int .i64) W A zs.length zs)) (hB : Stable ws P0 (fun W => W.heap[Bs]? = some (.cells #[.slice A zs.length cap] 25 (0, 0)))) (hz : zs.length ≤ 100000000) :
    Calls Try.prog 74 #[.slice none 0 0, .func (.func 73) #[] #[.pointer (some ⟨Bs, 0, none⟩)]] ws (Post1 w0 ws P0 (fun ((A_1, c_1) : Option Addr × Nat) => .slice A_1 zs.length c_1) (fun ((A_1, c_1) : Option Addr × Nat) => [row (Kd.int .i64) 3 (.slice A_1 zs.length c_1) zs])) := by
  refine enterM Try.func74 rfl Try.ntmps74 rfl hF ?_
  refine c_seq ?_
  refine za0 ?_
  refine o_e rfl (e_box (cs := #[.slice none 0 0]) rfl) (fun g1 => ?_)
  refine o_q rfl rfl (q_asg rfl) ?_
  refine o_end ?_
  refine za1 ?_
  refine c_seq ?_
  refine c_seq ?_
  refine za0 ?_
  refine o_q rfl rfl (za2 rfl) ?_
  refine o_end ?_
  refine za1 ?_
  refine zaf ?_
  intro w hw
  have ho := (hw.row_nil (Kd.int .i64) 3).obj_close (i := 0) (f := fun v => #[v]) (v := .slice none 0 0) rfl
  obtain ⟨P2, hF2, hst, _, hc2, hback⟩ := (show Fr w0 ws P0 ([obj g1 25 (fun v => #[v]) (Kd.int .i64) 3 ([] : List Int)] ++ []) w from ho).here Z
  have hZ2 : Below w0.heap.size w0 w := hF2.bel
  refine wpIn_any (N := ⟨13, [], none⟩) (n := 3) ?_
  refine wp_range (σ := List Int) (α := Int) (fun x => #[Value.int .i64 x]) (fun _ => rfl) [] (fun s x => s ++ [x]) (fun s => [obj g1 25 (fun v => #[v]) (Kd.int .i64) 3 s]) (fun s x q => [obj g1 25 (fun v => #[v]) (Kd.int .i64) 3 s])
    (fun x => [(7, .int .i64 x)]) (fun x q => [(5, .int .i64 x), (7, .int .i64 x)])
    rfl (enters9 Try.func73 N73 rfl) hF2 (vl_seq Bs A cap zs (hst _ hR) (hst _ hB)) (fun x => act_zip1) (fun s s' W h h' => obj_det h h') (fun s x q W P3 W' h => h) ?_ ?_ ?_
  · intro l s x W P3 Z3 hst3
    refine za0 ?_
    refine o_q rfl rfl (q_asg rfl) ?_
    refine o_end ?_
    intro w' hw'
    exact ⟨0, rfl, hw'⟩
  · intro l pre x q W P3 Z3 hst3 hlen
    have hpl : ∀ (pre s : List Int), (pre.foldl (fun s x => s ++ [x]) s).length = s.length + pre.length := fun pre => by
      induction pre with
      | nil => intro s; simp
      | cons a pre ih => intro s; rw [List.foldl_cons, ih]; simp; omega
    have hfl := hpl pre []
    generalize pre.foldl (fun s x => s ++ [x]) ([] : List Int) = s at hfl ⊢
    have hap : ap s [x] = some (s ++ [x]) := by
      unfold ap
      rw [if_pos (by simp at hfl ⊢; omega)]
    refine zaf ?_
    intro w1 hw1
    obtain ⟨v, h2⟩ := hw1.obj_open (i := 0) rfl
    obtain ⟨A6, c6, rfl, _, _⟩ := h2.row_reads (i := 0) rfl
    refine (show C Try.prog ⟨13, [], some l⟩ w0 W P3 _ _ _ [row (Kd.int .i64) 3 (.slice A6 s.length c6) s, box g1 25 #[.slice A6 s.length c6]] from ?_) w1 h2
    refine za0 ?_
    refine o_q rfl rfl (q_ldb Y25 rfl (fun w h => h.zan (i := 1) rfl) rfl) ?_
    refine o_q rfl rfl (za2 rfl) ?_
    refine o_e rfl (e_lit (vs := [(0, .int .i64 x)]) (cs := [.int .i64 x]) (Kd.int .i64) ([x] : List Int) Try.underlying25 I3 (by decide) rfl (by decide) rfl rfl (fun _ _ => Kd.zau _)) (cur2 (fun A7 c7 => ?_))
    refine o_e rfl (e_app (i := 1) (j := 0) Try.underlying25 I3 rfl (by decide) (by decide) rfl rfl rfl rfl rfl hap) (cur2 (fun A8 c8 => ?_))
    refine o_e rfl (e_store (i := 2) rfl rfl rfl rfl Z25 rfl rfl) (fun _ => ?_)
    refine o_end ?_
    refine zam ?_
    intro w2 hw2
    have hw3 : Fr w0 W P3 (row (Kd.int .i64) 3 (.slice A8 (s ++ [x]).length c8) (s ++ [x]) :: [box g1 25 #[.slice A8 (s ++ [x]).length c8]]) w2 := za7 [1, 2] (by decide) rfl _ hw2
    exact hw3.obj_close (i := 0) (f := fun v => #[v]) rfl
  · intro D xs W hD hS hFW hdf
    have hmap : ∀ (xs s : List Int), xs.foldl (fun s x => s ++ [x]) s = s ++ xs := fun xs => by
      induction xs with
      | nil => intro s; simp
      | cons a xs ih => intro s; rw [List.foldl_cons, ih]; simp
    rw [hmap, List.nil_append, hS] at hFW
    obtain ⟨v, h2⟩ := hFW.obj_open (i := 0) rfl
    obtain ⟨A6, c6, rfl, _, _⟩ := h2.row_reads (i := 0) rfl
    obtain ⟨P4, hF4, hst4, _, hc4, hback4⟩ := (show Fr w0 w P2 ([row (Kd.int .i64) 3 (.slice A6 zs.length c6) zs, box g1 25 #[.slice A6 zs.length c6]] ++ []) W from h2).here hZ2
    have hmk : Stable W P4 (fun w => w.heap[D]? = some (.deferred (some []))) := fun W' hk => by
      show W'.heap[D]? = _
      rw [hk.kept.2 D (Array.getElem?_eq_some_iff.1 hdf).1 (fun hp => by
        obtain ⟨cs, q, hcc⟩ := hc4 D hp
        rw [hdf] at hcc
        cases hcc)]
      exact hdf
    have hws : ws.heap.size ≤ D := Nat.le_trans (hw.keptB Z).kept.1 hD
    refine (show X ⟨13, [{ target := .collected D, args := #[] }], none⟩ w0 W P4 .normal _ _ _ from ?_) W hF4
    refine zam ?_
    refine za1 ?_
    refine c_seq ?_
    refine za0 ?_
    refine o_q rfl rfl (q_ldb Y25 rfl (fun w h => h.zan (i := 1) rfl) rfl) ?_
    refine o_q rfl rfl (q_asg rfl) ?_
    refine o_end ?_
    refine za1 ?_
    refine c_ret ?_
    refine x_mark (D := D) Z hws hmk hF4.bel (fun Ts w' h => hback _ _ (hback4 _ _ h)) ?_
    exact x_r1 (A6, c6) Try.results74 (zaa (v := .slice A6 zs.length c6) rfl) rfl (fun w h => za7 [0] (by decide) rfl w h)
set_option maxRecDepth 100000 in
theorem cls.calls {w0 ws : World} {P0 : Nat → Prop} (Bs : Nat) (A : Option Addr) (cap : Nat) (zs : List Int) (Z : Below w0.heap.size w0 ws) (hF : Fr w0 ws P0 [] ws) (hR : Stable ws P0 (fun W => Kd.C (Kd.int .i64) W A zs.length zs)) (hB : Stable ws P0 (fun W => W.heap[Bs]? = some (.cells #[.slice A zs.length cap] 25 (0, 0)))) (hz : zs.length ≤ 100000000) :
    Calls Try.prog 71 #[.func (.func 73) #[] #[.pointer (some ⟨Bs, 0, none⟩)]] ws (Post1 w0 ws P0 (fun ((A_1, c_1) : Option Addr × Nat) => .slice A_1 zs.length c_1) (fun ((A_1, c_1) : Option Addr × Nat) => [row (Kd.int .i64) 3 (.slice A_1 zs.length c_1) zs])) := by
  refine enter Try.func71 rfl Try.ntmps71 rfl hF ?_
  refine c_seq ?_
  refine za0 ?_
  refine o_q rfl rfl (q_asg rfl) ?_
  refine o_end ?_
  refine za1 ?_
  refine c_seq ?_
  refine za0 ?_
  refine o_q rfl rfl (za2 rfl) ?_
  refine o_e rfl (za9 0 Z Try.func74 N74 rfl rfl rfl (fun w P1 hF hB' hS hT => aps.calls Bs A cap zs hB' hF (hS _ hR) (hS _ hB) hz)) (cur2 (fun A6 c6 => ?_))
  refine o_q rfl rfl (q_asg rfl) ?_
  refine o_end ?_
  refine za1 ?_
  refine c_ret ?_
  exact x_r1 (A6, c6) Try.results71 (zaa (v := .slice A6 zs.length c6) rfl) rfl (fun w h => h)
/-- slices.Sort: the row is put in order. -/
theorem srt.calls {w0 ws : World} {P0 : Nat → Prop} (A : Option Addr) (c : Nat) (l : List Int) (hF : Fr w0 ws P0 [row (Kd.int .i64) 3 (.slice A l.length c) l] ws) (hz : l.length ≤ 100000000) :
    Calls Try.prog 72 #[.slice A l.length c] ws (Post1 w0 ws P0 (fun (_ : Unit) => .tuple #[]) (fun (_ : Unit) => [row (Kd.int .i64) 3 (.slice A l.length c) (l.mergeSort fun x y => decide (x ≤ y))])) := by
  have hR := hF.row_R (i := 0) rfl
  have hown := (Kd.own_of_R hR).2
  rcases hown with ⟨hnil, hl⟩ | ⟨g, cap, cur, hv, hge, hblk, hnc, hcm, hcs, htake⟩
  · injection hnil with q1 q2 q3
    have hl0 : l = [] := List.length_eq_zero_iff.1 (by simpa using q2)
    subst hl0
    refine (AnyM.slices_Sort_int_none sortL A c ws).mono ?_
    rintro e w' ⟨rfl, rfl⟩
    exact ⟨(), rfl, by simpa using hF⟩
  · injection hv with q1 q2 q3
    subst q1 q3
    have hg : g < ws.heap.size := (Array.getElem?_eq_some_iff.1 hblk).1
    have hH : Holds (Value.int .i64) ws g 0 l.toArray := holds_of_blockI hblk (by simpa [encs] using htake)
    refine (AnyM.slices_Sort_int sortL g 0 c l ws hH hg (by omega)).mono ?_
    rintro e w' ⟨rfl, k, os, rfl⟩
    obtain ⟨F, hT, hset⟩ := hF.focusP (i := 0) rfl
    have hlen : (l.mergeSort fun x y => decide (x ≤ y)).length = l.length := by simp
    have hgr := grownBy_sortedI (w := ws) (g := g) (n := k) (os := os) (l.mergeSort fun x y => decide (x ≤ y)).toArray
    have hFg : F g := hT.1 g rfl
    refine ⟨(), rfl, hset _ (row (Kd.int .i64) 3 (.slice (some ⟨g, 0, none⟩) l.length c) (l.mergeSort fun x y => decide (x ≤ y))) (hF.bel.grown hgr hF.bel.size (fun j hj => by cases hj; exact hge)) (Kept.of_grown hgr (Kept.refl _ _) (fun j hj => by cases hj; exact .inl hFg)) ?_⟩
    have hown' := ownsRow_sortedI (n := k) (os := os) (ss := l) (ts := l.mergeSort fun x y => decide (x ≤ y)) hlen hge hblk (by omega) hcm (by simpa using hcs)
    exact Kd.R_of_own (by rw [hlen]; exact hown') (fun j hj => by cases hj; exact .inl hFg)
set_option maxRecDepth 100000 in
theorem sorted.calls {w0 ws : World} {P0 : Nat → Prop} (Bs : Nat) (A : Option Addr) (cap : Nat) (zs : List Int) (Z : Below w0.heap.size w0 ws) (hF : Fr w0 ws P0 [] ws) (hR : Stable ws P0 (fun W => Kd.C (Kd.int .i64) W A zs.length zs)) (hB : Stable ws P0 (fun W => W.heap[Bs]? = some (.cells #[.slice A zs.length cap] 25 (0, 0)))) (hz : zs.length ≤ 100000000) :
    Calls Try.prog 67 #[.func (.func 73) #[] #[.pointer (some ⟨Bs, 0, none⟩)]] ws (Post1 w0 ws P0 (fun ((A_1, c_1) : Option Addr × Nat) => .slice A_1 zs.length c_1) (fun ((A_1, c_1) : Option Addr × Nat) => [row (Kd.int .i64) 3 (.slice A_1 zs.length c_1) (zs.mergeSort fun x y => decide (x ≤ y))])) := by
  refine enter Try.func67 rfl Try.ntmps67 rfl hF ?_
  refine c_seq ?_
  refine za0 ?_
  refine o_q rfl rfl (q_asg rfl) ?_
  refine o_end ?_
  refine za1 ?_
  refine c_seq ?_
  refine za0 ?_
  refine o_q rfl rfl (za2 rfl) ?_
  refine o_e rfl (za9 0 Z Try.func71 N71 rfl rfl rfl (fun w P1 hF hB' hS hT => cls.calls Bs A cap zs hB' hF (hS _ hR) (hS _ hB) hz)) (cur2 (fun A6 c6 => ?_))
  refine o_q rfl rfl (q_asg rfl) ?_
  refine o_end ?_
  refine za1 ?_
  refine c_seq ?_
  refine za0 ?_
  refine o_q rfl rfl (za2 rfl) ?_
  refine o_e rfl (za9 1 Z Try.func72 N72 rfl rfl rfl (fun w P1 hF hB' hS hT => srt.calls A6 c6 zs hF hz)) (fun _ => ?_)
  refine o_end ?_
  refine za1 ?_
  refine c_seq ?_
  refine za0 ?_
  refine o_q rfl rfl (za2 rfl) ?_
  refine o_q rfl rfl (q_asg rfl) ?_
  refine o_end ?_
  refine za1 ?_
  refine c_ret ?_
  exact x_r1 (A6, c6) Try.results67 (zaa (v := .slice A6 zs.length c6) rfl) rfl (fun w h => h)
end Go.Proofs.Ytobaolbilllfgaa.Srt
