/- slices.Sorted(slices.Values(list)) of whole numbers: a new row, in order. -/
import Derived.Test.YtnnlfipcoahcnaaGreatDoorKFnRenamedRegistersOpr
import Derived.Test.YtnnlfipcoahcnaaGreatDoorKFnRenamedRegistersWMore
import Derived.Shelf.SortM.Plain
import Derived.Shelf.SortM.SortNone
import Derived.Sort.OwnSortedInts
import Derived.Test.YtnnlfipcoahcnaaGreatDoorProg
import Derived.KernelRfl
namespace Go.Proofs.YtnnlfipcoahcnaaGreatDoor.Srt
open Go.RowKit Go.Sort Go.Shelf Go.Proofs Go.Proofs.YtnnlfipcoahcnaaGreatDoor.Frame Go.Proofs.YtnnlfipcoahcnaaGreatDoorW.PrintLast
open Go.Proofs.YtnnlfipcoahcnaaGreatDoorW.PrintWords hiding mn mx
set_option linter.unusedVariables false
def sortL_ren : Go.Shelf.Ren := ⟨fun | 5 => 133 | 8 => 156 | 7 => 155 | 19 => 178 | 20 => 179 | 10 => 169 | 11 => 170 | 12 => 171 | 13 => 172 | 14 => 173 | 15 => 174 | 16 => 175 | 17 => 176 | 18 => 177 | 30 => 186 | 31 => 187 | 32 => 188 | 33 => 189 | 34 => 190 | 35 => 191 | 40 => 194 | n => n, fun | 23 => 25 | 25 => 3 | 3 => 3 | 32 => 124 | 22 => 25 | 0 => 0 | 44 => 139 | 46 => 52 | 4 => 4 | 36 => 175 | 35 => 174 | 41 => 179 | 5 => 5 | 9 => 9 | 53 => 193 | 57 => 197 | 63 => 199 | 64 => 200 | n => n, fun | n => n⟩
theorem sortL : Go.Proofs.SlLaysM.n5 Tryz.prog sortL_ren := {
 mixed := by kernel_rfl
 f5 := ⟨Tryz.f133.name, by decide, Tryz.func133.trans (congrArg some (by kernel_rfl))⟩
 f7 := ⟨Tryz.f155.name, by decide, Tryz.func155.trans (congrArg some (by kernel_rfl))⟩
 f8 := Tryz.func156.trans (congrArg some (by kernel_rfl))
 f10 := ⟨Tryz.f169.name, by decide, Tryz.func169.trans (congrArg some (by kernel_rfl))⟩
 f11 := ⟨Tryz.f170.name, by decide, Tryz.func170.trans (congrArg some (by kernel_rfl))⟩
 f12 := ⟨Tryz.f171.name, by decide, Tryz.func171.trans (congrArg some (by kernel_rfl))⟩
 f13 := ⟨Tryz.f172.name, by decide, Tryz.func172.trans (congrArg some (by kernel_rfl))⟩
 f14 := ⟨Tryz.f173.name, by decide, Tryz.func173.trans (congrArg some (by kernel_rfl))⟩
 f15 := ⟨Tryz.f174.name, by decide, Tryz.func174.trans (congrArg some (by kernel_rfl))⟩
 f16 := ⟨Tryz.f175.name, by decide, Tryz.func175.trans (congrArg some (by kernel_rfl))⟩
 f17 := ⟨Tryz.f176.name, by decide, Tryz.func176.trans (congrArg some (by kernel_rfl))⟩
 f18 := ⟨Tryz.f177.name, by decide, Tryz.func177.trans (congrArg some (by kernel_rfl))⟩
 f19 := Tryz.func178.trans (congrArg some (by kernel_rfl))
 f20 := Tryz.func179.trans (congrArg some (by kernel_rfl))
 f30 := ⟨Tryz.f186.name, by decide, Tryz.func186.trans (congrArg some (by kernel_rfl))⟩
 f31 := Tryz.func187.trans (congrArg some (by kernel_rfl))
 f32 := Tryz.func188.trans (congrArg some (by kernel_rfl))
 f33 := ⟨Tryz.f189.name, by decide, Tryz.func189.trans (congrArg some (by kernel_rfl))⟩
 f34 := ⟨Tryz.f190.name, by decide, Tryz.func190.trans (congrArg some (by kernel_rfl))⟩
 f35 := ⟨Tryz.f191.name, by decide, Tryz.func191.trans (congrArg some (by kernel_rfl))⟩
 f40 := ⟨Tryz.f194.name, by decide, Tryz.func194.trans (congrArg some (by kernel_rfl))⟩
 t0 := Tryz.underlying0
 a0 := Tryz.isAgg0
 z0 := Tryz.sizeOf0
 v0 := Tryz.zeroValue0
 t3 := Tryz.underlying3
 a3 := Tryz.isAgg3
 z3 := Tryz.sizeOf3
 v3 := Tryz.zeroValue3
 t4 := Tryz.underlying4
 a4 := Tryz.isAgg4
 z4 := Tryz.sizeOf4
 v4 := Tryz.zeroValue4
 t5 := Tryz.underlying5
 a5 := Tryz.isAgg5
 z5 := Tryz.sizeOf5
 v5 := Tryz.zeroValue5
 t9 := Tryz.underlying9
 a9 := Tryz.isAgg9
 z9 := Tryz.sizeOf9
 v9 := Tryz.zeroValue9
 t22 := Tryz.underlying25
 a22 := Tryz.isAgg25
 z22 := Tryz.sizeOf25
 v22 := Tryz.zeroValue25
 t23 := Tryz.underlying25
 a23 := Tryz.isAgg25
 z23 := Tryz.sizeOf25
 v23 := Tryz.zeroValue25
 t25 := Tryz.underlying3
 a25 := Tryz.isAgg3
 z25 := Tryz.sizeOf3
 v25 := Tryz.zeroValue3
 t32 := Tryz.underlying124
 a32 := Tryz.isAgg124
 z32 := Tryz.sizeOf124
 v32 := Tryz.zeroValue124
 t35 := Tryz.underlying174
 a35 := Tryz.isAgg174
 z35 := Tryz.sizeOf174
 v35 := Tryz.zeroValue174
 t36 := Tryz.underlying175
 a36 := Tryz.isAgg175
 z36 := Tryz.sizeOf175
 v36 := Tryz.zeroValue175
 t41 := Tryz.underlying179
 a41 := Tryz.isAgg179
 z41 := Tryz.sizeOf179
 v41 := Tryz.zeroValue179
 t44 := Tryz.underlying139
 a44 := Tryz.isAgg139
 z44 := Tryz.sizeOf139
 v44 := Tryz.zeroValue139
 t46 := Tryz.underlying52
 a46 := Tryz.isAgg52
 z46 := Tryz.sizeOf52
 v46 := Tryz.zeroValue52
 t53 := Tryz.underlying193
 a53 := Tryz.isAgg193
 z53 := Tryz.sizeOf193
 v53 := Tryz.zeroValue193
 t57 := Tryz.underlying197
 a57 := Tryz.isAgg197
 z57 := Tryz.sizeOf197
 v57 := Tryz.zeroValue197
 t63 := Tryz.underlying199
 a63 := Tryz.isAgg199
 z63 := Tryz.sizeOf199
 v63 := Tryz.zeroValue199
 t64 := Tryz.underlying200
 a64 := Tryz.isAgg200
 z64 := Tryz.sizeOf200
 v64 := Tryz.zeroValue200 }
theorem I3 : (Tryz.prog.info? 3).map (fun i => (i.zero, i.size, i.bytes)) = some (some (.int .i64 0), 1, 8) := by kernel_rfl
theorem N132 : (Tryz.f132.name == "runtime.NumGoroutine") = false := by kernel_rfl
theorem N133 : (Tryz.f133.name == "runtime.NumGoroutine") = false := by kernel_rfl
theorem N134 : (Tryz.f134.name == "runtime.NumGoroutine") = false := by kernel_rfl
theorem N154 : (Tryz.f154.name == "runtime.NumGoroutine") = false := by kernel_rfl
theorem Y25 : cellTy (Tryz.prog.underlying 25) = true := by kernel_rfl
theorem Y3 : cellTy (Tryz.prog.underlying 3) = true := by kernel_rfl
theorem Z25 : (Tryz.prog.info? 25).map (·.size) = some 1 := by kernel_rfl
theorem Z3 : (Tryz.prog.info? 3).map (·.size) = some 1 := by kernel_rfl
/-! ### slices.Values, AppendSeq, Collect, Sort, Sorted at []int -/
theorem vlc.calls {w0 ws : World} {P0 : Nat → Prop} (A : Option Addr) (n c : Nat) (hF : Fr w0 ws P0 [] ws) : Calls Tryz.prog 106 #[.slice A n c] ws (Post1 w0 ws P0 (fun (q : Nat) => .func (.func 134) #[] #[.pointer (some ⟨q, 0, none⟩)]) (fun (q : Nat) => [box q 25 #[.slice A n c]])) := by
 refine enter Tryz.func106 rfl Tryz.ntmps106 rfl hF ?_
 refine c_seq ?_
 refine za0 ?_
 refine o_e rfl (e_box rfl) (fun g1 => ?_)
 refine o_q rfl rfl (q_asg rfl) ?_
 refine o_end ?_
 refine za1 ?_
 refine c_seq ?_
 refine za0 ?_
 refine o_q rfl rfl (q_func (f := .func 134) (a := []) (b := [.tmp 1]) rfl rfl) ?_
 refine o_q rfl rfl (q_asg rfl) ?_
 refine o_end ?_
 refine za1 ?_
 refine c_ret ?_
 exact x_r1 g1 Tryz.results106 (zad rfl) rfl (fun w h => h)
set_option maxRecDepth 100000 in
theorem vl_seq {w : World} {P1 : Nat → Prop} (Bs : Nat) (A : Option Addr) (cap : Nat) (zs : List Int) (hR : Stable w P1 (fun W => Kd.C (Kd.int .i64) W A zs.length zs)) (hB : Stable w P1 (fun W => W.heap[Bs]? = some (.cells #[.slice A zs.length cap] 25 (0, 0)))) :
  SeqStopsK Fence.wide 2 Tryz.prog 134 #[.pointer (some ⟨Bs, 0, none⟩)] (fun x : Int => #[Value.int .i64 x]) (KpS w P1) (fun ys => ys = zs) (fun _ => True) zs.length w := by
 intro l J Jx W hW hJ hJx hY h0
 have hk0 : KeptB w W P1 := ⟨⟨hW.size, fun i hi _ => hW.block i hi⟩, hW.os, hW.tape, hW.output⟩
 have hlen : zs.length ≤ 9223372036854775807 := (hR w (KeptB.refl _ _)).2.1
 refine enterG (m := 16) Tryz.func134 rfl Tryz.ntmps134 rfl ?_
 refine wpIn_seq (wpIn_region_list ?_)
 refine g_q (fun c hc => by cases hc) rfl rfl (q_ldb (bt := 25) Y25 rfl (fun w' h' => by subst h'; exact hB _ hk0) rfl) ?_
 refine g_q (fun c hc => by cases hc) rfl rfl (q_len Tryz.underlying25 rfl) ?_
 refine g_q (fun c hc => by cases hc) rfl rfl (za3 rfl) ?_
 refine wpListIn_nil ?_
 refine wpIn_block ?_
 refine wpIn_loop_ghost (fun m a W' => ∃ (e : Nat → Value) (j : Nat), j + m = zs.length ∧ a = act ⟨16, [], none⟩ e ∧ e 0 = .func (.yield l) #[] #[] ∧ e 5 = .slice A zs.length cap ∧ e 6 = .int .i64 (zs.length : Int) ∧ e 7 = .int .i64 (j : Int) ∧ J (zs.take j) W' ∧ KeptB w W' P1) zs.length ⟨_, 0, by omega, rfl, rfl, rfl, rfl, rfl, h0, hk0⟩ ?_
 rintro m a W' ⟨e, j, hm, rfl, he0, he5, he6, he7, hJp, hk⟩
 refine wpIn_seq (wpIn_region_list ?_)
 refine g_q (fun c hc => by cases hc) rfl rfl (q_lss he7 he6) ?_
 refine wpListIn_nil ?_
 cases m with
 | zero =>
  refine wpIn_seq (wpIn_cond_false ?_ (wpIn_exit ?_))
  ·rw [act_eval]
   show Value.bool (decide ((j : Int) < (zs.length : Int))) = _
   rw [decide_eq_false (by omega)]
  refine exth (exth (inblk ?_))
  refine ⟨rfl, _, results_none rfl _ _ _, ⟨_, rfl⟩, .inl ⟨zs.take j, ?_, hJp⟩⟩
  exact List.take_of_length_le (by omega)
 | succ m =>
  refine wpIn_seq (wpIn_cond_true ?_ (wpIn_skip ?_))
  ·rw [act_eval]
   show Value.bool (decide ((j : Int) < (zs.length : Int))) = _
   rw [decide_eq_true (by omega)]
  refine wpIn_seq (wpIn_block (wpIn_seq (wpIn_region_list ?_)))
  have hjl : j < zs.length := by omega
  have hC := hR W' hk
  refine g_q (fun c hc => by cases hc) rfl rfl (q_ix (xs := zs) Tryz.underlying25 Z3 he5 he7 (C_sh hC) (gt_at hjl)) ?_
  refine g_q (fun c hc => by cases hc) rfl rfl (q_lde (off := 0) Y3 rfl rfl (fun w' h' => by subst h'; exact hC) (gt_at hjl) (fun _ _ h => h) rfl) ?_
  refine g_q (fun c hc => by cases hc) rfl rfl (q_asg rfl) ?_
  refine wpListIn_nil ?_
  refine wpIn_seq (wpIn_region_list ?_)
  refine g_q (fun c hc => by cases hc) rfl rfl (za3 he0) ?_
  refine g_q (fun c hc => by cases hc) rfl rfl (za3 rfl) ?_
  have htl : (zs.take j).length = j := by rw [List.length_take]; omega
  refine g_yield1 rfl rfl rfl (hY (zs.take j) zs[j] W' hJp (by omega)) (fun e w' h => by rcases h with ⟨rfl, _⟩ | ⟨rfl, _⟩ <;> exact ⟨_, rfl⟩) ?_
  rintro v W3 (⟨hv, hJ3, hk3⟩ | ⟨hv, hJx3⟩)
  ·obtain rfl := Ending.returned.inj hv
   refine g_q (fun c hc => by cases hc) rfl rfl (q_not rfl) ?_
   refine wpListIn_nil ?_
   refine wpIn_cond_false rfl (wpIn_skip ?_)
   refine wpIn_region_list ?_
   refine g_q (fun c hc => by cases hc) rfl rfl (zb5 he7 rfl) ?_
   refine g_q (fun c hc => by cases hc) rfl rfl (za3 rfl) ?_
   refine wpListIn_nil ?_
   refine ⟨m, Nat.lt_succ_self m, _, j + 1, by omega, rfl, he0, he5, he6, ?_, ?_, hk3 hk⟩
   ·show Value.int .i64 (w64 ((j : Int) + 1)) = _
    rw [zb6 (by omega)]
    rfl
   ·rw [List.take_add_one, List.getElem?_eq_getElem hjl]
    exact hJ3
  ·obtain rfl := Ending.returned.inj hv
   refine g_q (fun c hc => by cases hc) rfl rfl (q_not rfl) ?_
   refine wpListIn_nil ?_
   refine wpIn_cond_true rfl (wpIn_ret ?_)
   exact ⟨rfl, _, results_none rfl _ _ _, ⟨_, rfl⟩, .inr ⟨_, trivial, hJx3⟩⟩
theorem int_det {w : World} {A : Option Addr} {xs ys : List Int} (hl : xs.length = ys.length) (h : Kd.C (Kd.int .i64) w A xs.length xs) (h' : Kd.C (Kd.int .i64) w A ys.length ys) : xs = ys := by
 refine List.ext_getElem hl fun i h1 h2 => ?_
 obtain ⟨ad, rfl, hh⟩ := h.2.2 (by omega)
 obtain ⟨ad', e, hh'⟩ := h'.2.2 (by omega)
 cases e
 obtain ⟨c, _, hk, hcell⟩ := hh i _ (List.getElem?_eq_getElem h1)
 obtain ⟨c', _, hk', hcell'⟩ := hh' i _ (List.getElem?_eq_getElem h2)
 obtain rfl : c = [Value.int .i64 xs[i]] := hk
 obtain rfl : c' = [Value.int .i64 ys[i]] := hk'
 have a := hcell 0 _ rfl
 have b := hcell' 0 _ rfl
 rw [a] at b
 injection b with b
 injection b
/-- A box that holds a row of numbers: what it holds is one. -/
theorem obj_det {w0 w W : World} {P1 : Nat → Prop} {g t u : Nat} {xs ys : List Int} (h : Fr w0 w P1 [obj g t (fun v => #[v]) (Kd.int .i64) u xs] W) (h' : Fr w0 w P1 [obj g t (fun v => #[v]) (Kd.int .i64) u ys] W) : xs = ys := by
 obtain ⟨v, a⟩ := h.obj_open (i := 0) rfl
 obtain ⟨v', b⟩ := h'.obj_open (i := 0) rfl
 have e1 := a.zac (i := 1) rfl
 have e2 := b.zac (i := 1) rfl
 rw [e1] at e2
 have ev : v = v' := by
  injection e2 with e2
  injection e2 with e2
  have := congrArg (fun a => a[0]?) e2
  simpa using this
 subst ev
 obtain ⟨A, c, rfl, _, hC⟩ := a.row_reads (i := 0) rfl
 obtain ⟨A', c', hv, _, hC'⟩ := b.row_reads (i := 0) rfl
 injection hv with q1 q2 q3
 subst q1
 exact int_det q2 hC hC'
set_option maxHeartbeats 800000 in
set_option maxRecDepth 100000 in
theorem aps.calls {w0 ws : World} {P0 : Nat → Prop} (Bs : Nat) (A : Option Addr) (cap : Nat) (zs : List Int) (Z : Below w0.heap.size w0 ws) (hF : Fr w0 ws P0 [] ws) (hR : Stable ws P0 (fun W => Kd.C (Kd.int .i64) W A zs.length zs)) (hB : Stable ws P0 (fun W => W.heap[Bs]? = some (.cells #[.slice A zs.length cap] 25 (0, 0)))) (hz : zs.length ≤ 100000000) :
  Calls Tryz.prog 154 #[.slice none 0 0, .func (.func 134) #[] #[.pointer (some ⟨Bs, 0, none⟩)]] ws (Post1 w0 ws P0 (fun ((A_1, c_1) : Option Addr × Nat) => .slice A_1 zs.length c_1) (fun ((A_1, c_1) : Option Addr × Nat) => [row (Kd.int .i64) 3 (.slice A_1 zs.length c_1) zs])) := by
 refine enterM Tryz.func154 rfl Tryz.ntmps154 rfl hF ?_
 refine c_seq ?_
 refine za0 ?_
 refine o_e rfl (e_box (cs := #[.slice none 0 0]) rfl) (fun g1 => ?_)
 refine o_q rfl rfl (q_asg rfl) ?_
 refine o_end ?_
 refine za1 ?_
 refine c_seq ?_
 refine c_seq ?_
 refine za0 ?_
 refine o_q rfl rfl (za3 rfl) ?_
 refine o_end ?_
 refine za1 ?_
 refine zah ?_
 intro w hw
 have ho := (hw.row_nil (Kd.int .i64) 3).obj_close (i := 0) (f := fun v => #[v]) (v := .slice none 0 0) rfl
 obtain ⟨P2, hF2, hst, _, hc2, hback⟩ := (show Fr w0 ws P0 ([obj g1 25 (fun v => #[v]) (Kd.int .i64) 3 ([] : List Int)] ++ []) w from ho).here Z
 have hZ2 : Below w0.heap.size w0 w := hF2.bel
 refine wpIn_any (N := ⟨13, [], none⟩) (n := 3) ?_
 refine wp_range (σ := List Int) (α := Int) (fun x => #[Value.int .i64 x]) (fun _ => rfl) [] (fun s x => s ++ [x]) (fun s => [obj g1 25 (fun v => #[v]) (Kd.int .i64) 3 s]) (fun s x q => [obj g1 25 (fun v => #[v]) (Kd.int .i64) 3 s])
  (fun x => [(7, .int .i64 x)]) (fun x q => [(5, .int .i64 x), (7, .int .i64 x)])
  rfl (enters9 Tryz.func134 N134 rfl) hF2 (vl_seq Bs A cap zs (hst _ hR) (hst _ hB)) (fun x => act_zip1) (fun s s' W h h' => obj_det h h') (fun s x q W P3 W' h => h) ?_ ?_ ?_
 ·intro l s x W P3 Z3 hst3
  refine za0 ?_
  refine o_q rfl rfl (q_asg rfl) ?_
  refine o_end ?_
  intro w' hw'
  exact ⟨0, rfl, hw'⟩
 ·intro l pre x q W P3 Z3 hst3 hlen
  have hpl : ∀ (pre s : List Int), (pre.foldl (fun s x => s ++ [x]) s).length = s.length + pre.length := fun pre => by
   induction pre with
   | nil => intro s; simp
   | cons a pre ih => intro s; rw [List.foldl_cons, ih]; simp; omega
  have hfl := hpl pre []
  generalize pre.foldl (fun s x => s ++ [x]) ([] : List Int) = s at hfl ⊢
  have hap : ap s [x] = some (s ++ [x]) := by
   unfold ap
   rw [if_pos (by simp at hfl ⊢; omega)]
  refine zah ?_
  intro w1 hw1
  obtain ⟨v, h2⟩ := hw1.obj_open (i := 0) rfl
  obtain ⟨A6, c6, rfl, _, _⟩ := h2.row_reads (i := 0) rfl
  refine (show C Tryz.prog ⟨13, [], some l⟩ w0 W P3 _ _ _ [row (Kd.int .i64) 3 (.slice A6 s.length c6) s, box g1 25 #[.slice A6 s.length c6]] from ?_) w1 h2
  refine za0 ?_
  refine o_q rfl rfl (q_ldb Y25 rfl (fun w h => h.zac (i := 1) rfl) rfl) ?_
  refine o_q rfl rfl (za3 rfl) ?_
  refine o_e rfl (e_lit (vs := [(0, .int .i64 x)]) (cs := [.int .i64 x]) (Kd.int .i64) ([x] : List Int) Tryz.underlying25 I3 (by decide) rfl (by decide) rfl rfl (fun _ _ => Kd.zaf _)) (cur2 (fun A7 c7 => ?_))
  refine o_e rfl (e_app (i := 1) (j := 0) Tryz.underlying25 I3 rfl (by decide) (by decide) rfl rfl rfl rfl rfl hap) (cur2 (fun A8 c8 => ?_))
  refine o_e rfl (zav (i := 2) rfl rfl rfl rfl Z25 rfl rfl) (fun _ => ?_)
  refine o_end ?_
  refine zak ?_
  intro w2 hw2
  have hw3 : Fr w0 W P3 (row (Kd.int .i64) 3 (.slice A8 (s ++ [x]).length c8) (s ++ [x]) :: [box g1 25 #[.slice A8 (s ++ [x]).length c8]]) w2 := za8 [1, 2] (by decide) rfl _ hw2
  exact hw3.obj_close (i := 0) (f := fun v => #[v]) rfl
 ·intro D xs W hD hS hFW hdf
  have hmap : ∀ (xs s : List Int), xs.foldl (fun s x => s ++ [x]) s = s ++ xs := fun xs => by
   induction xs with
   | nil => intro s; simp
   | cons a xs ih => intro s; rw [List.foldl_cons, ih]; simp
  rw [hmap, List.nil_append, hS] at hFW
  obtain ⟨v, h2⟩ := hFW.obj_open (i := 0) rfl
  obtain ⟨A6, c6, rfl, _, _⟩ := h2.row_reads (i := 0) rfl
  obtain ⟨P4, hF4, hst4, _, hc4, hback4⟩ := (show Fr w0 w P2 ([row (Kd.int .i64) 3 (.slice A6 zs.length c6) zs, box g1 25 #[.slice A6 zs.length c6]] ++ []) W from h2).here hZ2
  have hmk : Stable W P4 (fun w => w.heap[D]? = some (.deferred (some []))) := fun W' hk => by
   show W'.heap[D]? = _
   rw [hk.kept.2 D (Array.getElem?_eq_some_iff.1 hdf).1 (fun hp => by
    obtain ⟨cs, q, hcc⟩ := hc4 D hp
    rw [hdf] at hcc
    cases hcc)]
   exact hdf
  have hws : ws.heap.size ≤ D := Nat.le_trans (hw.keptB Z).kept.1 hD
  refine (show X ⟨13, [{ target := .collected D, args := #[] }], none⟩ w0 W P4 .normal _ _ _ from ?_) W hF4
  refine zak ?_
  refine za1 ?_
  refine c_seq ?_
  refine za0 ?_
  refine o_q rfl rfl (q_ldb Y25 rfl (fun w h => h.zac (i := 1) rfl) rfl) ?_
  refine o_q rfl rfl (q_asg rfl) ?_
  refine o_end ?_
  refine za1 ?_
  refine c_ret ?_
  refine x_mark (D := D) Z hws hmk hF4.bel (fun Ts w' h => hback _ _ (hback4 _ _ h)) ?_
  exact x_r1 (A6, c6) Tryz.results154 (zad (v := .slice A6 zs.length c6) rfl) rfl (fun w h => za8 [0] (by decide) rfl w h)
set_option maxRecDepth 100000 in
theorem cls.calls {w0 ws : World} {P0 : Nat → Prop} (Bs : Nat) (A : Option Addr) (cap : Nat) (zs : List Int) (Z : Below w0.heap.size w0 ws) (hF : Fr w0 ws P0 [] ws) (hR : Stable ws P0 (fun W => Kd.C (Kd.int .i64) W A zs.length zs)) (hB : Stable ws P0 (fun W => W.heap[Bs]? = some (.cells #[.slice A zs.length cap] 25 (0, 0)))) (hz : zs.length ≤ 100000000) :
  Calls Tryz.prog 132 #[.func (.func 134) #[] #[.pointer (some ⟨Bs, 0, none⟩)]] ws (Post1 w0 ws P0 (fun ((A_1, c_1) : Option Addr × Nat) => .slice A_1 zs.length c_1) (fun ((A_1, c_1) : Option Addr × Nat) => [row (Kd.int .i64) 3 (.slice A_1 zs.length c_1) zs])) := by
 refine enter Tryz.func132 rfl Tryz.ntmps132 rfl hF ?_
 refine c_seq ?_
 refine za0 ?_
 refine o_q rfl rfl (q_asg rfl) ?_
 refine o_end ?_
 refine za1 ?_
 refine c_seq ?_
 refine za0 ?_
 refine o_q rfl rfl (za3 rfl) ?_
 refine o_e rfl (za7 0 Z Tryz.func154 N154 rfl rfl rfl (fun w P1 hF hB' hS hT => aps.calls Bs A cap zs hB' hF (hS _ hR) (hS _ hB) hz)) (cur2 (fun A6 c6 => ?_))
 refine o_q rfl rfl (q_asg rfl) ?_
 refine o_end ?_
 refine za1 ?_
 refine c_ret ?_
 exact x_r1 (A6, c6) Tryz.results132 (zad (v := .slice A6 zs.length c6) rfl) rfl (fun w h => h)
/-- slices.Sort: the row is put in order. -/
theorem srt.calls {w0 ws : World} {P0 : Nat → Prop} (A : Option Addr) (c : Nat) (l : List Int) (hF : Fr w0 ws P0 [row (Kd.int .i64) 3 (.slice A l.length c) l] ws) (hz : l.length ≤ 100000000) :
  Calls Tryz.prog 133 #[.slice A l.length c] ws (Post1 w0 ws P0 (fun (_ : Unit) => .tuple #[]) (fun (_ : Unit) => [row (Kd.int .i64) 3 (.slice A l.length c) (l.mergeSort fun x y => decide (x ≤ y))])) := by
 have hR := hF.row_R (i := 0) rfl
 have hown := (Kd.own_of_R hR).2
 rcases hown with ⟨hnil, hl⟩ | ⟨g, cap, cur, hv, hge, hblk, hnc, hcm, hcs, htake⟩
 ·injection hnil with q1 q2 q3
  have hl0 : l = [] := List.length_eq_zero_iff.1 (by simpa using q2)
  subst hl0
  refine (AnyM.slices_Sort_int_none sortL A c ws).mono ?_
  rintro e w' ⟨rfl, rfl⟩
  exact ⟨(), rfl, by simpa using hF⟩
 ·injection hv with q1 q2 q3
  subst q1 q3
  have hg : g < ws.heap.size := (Array.getElem?_eq_some_iff.1 hblk).1
  have hH : Holds (Value.int .i64) ws g 0 l.toArray := holds_of_blockI hblk (by simpa [encs] using htake)
  refine (AnyM.slices_Sort_int sortL g 0 c l ws hH hg (by omega)).mono ?_
  rintro e w' ⟨rfl, k, os, rfl⟩
  obtain ⟨F, hT, hset⟩ := hF.focusP (i := 0) rfl
  have hlen : (l.mergeSort fun x y => decide (x ≤ y)).length = l.length := by simp
  have hgr := grownBy_sortedI (w := ws) (g := g) (n := k) (os := os) (l.mergeSort fun x y => decide (x ≤ y)).toArray
  have hFg : F g := hT.1 g rfl
  refine ⟨(), rfl, hset _ (row (Kd.int .i64) 3 (.slice (some ⟨g, 0, none⟩) l.length c) (l.mergeSort fun x y => decide (x ≤ y))) (hF.bel.grown hgr hF.bel.size (fun j hj => by cases hj; exact hge)) (Kept.of_grown hgr (Kept.refl _ _) (fun j hj => by cases hj; exact .inl hFg)) ?_⟩
  have hown' := ownsRow_sortedI (n := k) (os := os) (ss := l) (ts := l.mergeSort fun x y => decide (x ≤ y)) hlen hge hblk (by omega) hcm (by simpa using hcs)
  exact Kd.R_of_own (by rw [hlen]; exact hown') (fun j hj => by cases hj; exact .inl hFg)
set_option maxRecDepth 100000 in
theorem sorted.calls {w0 ws : World} {P0 : Nat → Prop} (Bs : Nat) (A : Option Addr) (cap : Nat) (zs : List Int) (Z : Below w0.heap.size w0 ws) (hF : Fr w0 ws P0 [] ws) (hR : Stable ws P0 (fun W => Kd.C (Kd.int .i64) W A zs.length zs)) (hB : Stable ws P0 (fun W => W.heap[Bs]? = some (.cells #[.slice A zs.length cap] 25 (0, 0)))) (hz : zs.length ≤ 100000000) :
  Calls Tryz.prog 105 #[.func (.func 134) #[] #[.pointer (some ⟨Bs, 0, none⟩)]] ws (Post1 w0 ws P0 (fun ((A_1, c_1) : Option Addr × Nat) => .slice A_1 zs.length c_1) (fun ((A_1, c_1) : Option Addr × Nat) => [row (Kd.int .i64) 3 (.slice A_1 zs.length c_1) (zs.mergeSort fun x y => decide (x ≤ y))])) := by
 refine enter Tryz.func105 rfl Tryz.ntmps105 rfl hF ?_
 refine c_seq ?_
 refine za0 ?_
 refine o_q rfl rfl (q_asg rfl) ?_
 refine o_end ?_
 refine za1 ?_
 refine c_seq ?_
 refine za0 ?_
 refine o_q rfl rfl (za3 rfl) ?_
 refine o_e rfl (za7 0 Z Tryz.func132 N132 rfl rfl rfl (fun w P1 hF hB' hS hT => cls.calls Bs A cap zs hB' hF (hS _ hR) (hS _ hB) hz)) (cur2 (fun A6 c6 => ?_))
 refine o_q rfl rfl (q_asg rfl) ?_
 refine o_end ?_
 refine za1 ?_
 refine c_seq ?_
 refine za0 ?_
 refine o_q rfl rfl (za3 rfl) ?_
 refine o_e rfl (za7 1 Z Tryz.func133 N133 rfl rfl rfl (fun w P1 hF hB' hS hT => srt.calls A6 c6 zs hF hz)) (fun _ => ?_)
 refine o_end ?_
 refine za1 ?_
 refine c_seq ?_
 refine za0 ?_
 refine o_q rfl rfl (za3 rfl) ?_
 refine o_q rfl rfl (q_asg rfl) ?_
 refine o_end ?_
 refine za1 ?_
 refine c_ret ?_
 exact x_r1 (A6, c6) Tryz.results105 (zad (v := .slice A6 zs.length c6) rfl) rfl (fun w h => h)
end Go.Proofs.YtnnlfipcoahcnaaGreatDoor.Srt
