import Derived.Test.YtiaohjciddbpoaaKFnWindowsMakePlansH3p1
namespace Go.Proofs.Ytiaohjciddbpoaa.H3
open Go.RowKit Go.Proofs.Ytiaohjciddbpoaa.Frame Go.Proofs.YtiaohjciddbpoaaW.PrintLast Go.Proofs.Ytiaohjciddbpoaa.Hand
open Go.Proofs.YtiaohjciddbpoaaW.PrintWords hiding mn mx
set_option linter.unusedVariables false
/-! ### loop.example/g01098/impl.newMaker: function 54 -/
def impl_newMaker.f (a0 : Int) : Option Unit := some ()
set_option maxHeartbeats 600000 in
set_option maxRecDepth 100000 in
theorem impl_newMaker.calls {w0 ws : World} {P0 : Nat → Prop} (a0 : Int) (Z : Below w0.heap.size w0 ws) (hF : Fr w0 ws P0 [] ws)   (h : impl_newMaker.f a0 = some ()) :
    Calls Try.prog 54 #[.int .i64 a0] ws (Post1 w0 ws P0 (fun (q_1 : Nat) => .pointer (some ⟨q_1, 0, none⟩)) (fun (q_1 : Nat) => [box q_1 94 #[.int .i64 a0, .slice none 0 0, .slice none 0 0], row kStep 107 (.slice none 0 0) [], row (Kd.int .i64) 3 (.slice none 0 0) []])) := by
  unfold impl_newMaker.f at h
  refine enter Try.func54 rfl Try.ntmps54 rfl hF ?_
  refine c_seq ?_
  refine za0 ?_
  refine o_q rfl rfl (q_asg rfl) ?_
  refine o_end ?_
  refine za1 ?_
  refine c_seq ?_
  refine za0 ?_
  refine o_q rfl rfl (za2 rfl) ?_
  refine o_q rfl rfl (q_build (vs := [(0, .int .i64 a0)]) (cs := [.int .i64 a0, .slice none 0 0, .slice none 0 0]) rfl rfl) ?_
  refine o_q rfl rfl (q_build (vs := [(0, .agg #[.int .i64 a0, .slice none 0 0, .slice none 0 0])]) (cs := [.int .i64 a0, .slice none 0 0, .slice none 0 0]) rfl rfl) ?_
  refine o_e rfl (e_box rfl) (fun g1 => ?_)
  refine o_q rfl rfl (q_asg rfl) ?_
  refine o_end ?_
  refine za1 ?_
  refine c_ret ?_
  refine x_nil kStep 107 ?_
  refine x_nil (Kd.int .i64) 3 ?_
  exact x_r1 g1 Try.results54 (zal rfl) rfl (fun w h => za6 [2, 1, 0] (by decide) rfl w h)

/-! ### loop.example/g01098/impl.step: function 114 -/
def impl_step.f (a0 : Int) (a1 : Int) : Option Unit := some ()
set_option maxHeartbeats 600000 in
set_option maxRecDepth 100000 in
theorem impl_step.calls {w0 ws : World} {P0 : Nat → Prop} (a0 : Int) (a1 : Int) (Z : Below w0.heap.size w0 ws) (hF : Fr w0 ws P0 [] ws)   (h : impl_step.f a0 a1 = some ()) :
    Calls Try.prog 114 #[.int .i64 a0, .int .i64 a1] ws (Post1 w0 ws P0 (fun (_ : Unit) => .agg #[.int .i64 (mn a0 a1), .int .i64 (mx a0 a1)]) (fun (_ : Unit) => [])) := by
  unfold impl_step.f at h
  refine enter Try.func114 rfl Try.ntmps114 rfl hF ?_
  refine c_seq ?_
  refine za0 ?_
  refine o_e rfl (zam V107 rfl) (fun g1 => ?_)
  refine o_end ?_
  refine za1 ?_
  refine c_seq ?_
  refine za0 ?_
  refine o_q rfl rfl (za2 rfl) ?_
  refine o_q rfl rfl (za2 rfl) ?_
  refine o_q rfl rfl (q_min rfl rfl) ?_
  refine o_q rfl rfl (za2 rfl) ?_
  refine o_q rfl rfl (za2 rfl) ?_
  refine o_q rfl rfl (q_max rfl rfl) ?_
  refine o_q rfl rfl (q_build (vs := [(0, .int .i64 (mn a0 a1)), (1, .int .i64 (mx a0 a1))]) (cs := [.int .i64 (mn a0 a1), .int .i64 (mx a0 a1)]) rfl rfl) ?_
  refine o_e rfl (zav (i := 0) rfl rfl rfl Z107 rfl rfl) (fun _ => ?_)
  refine o_end ?_
  refine za1 ?_
  refine c_ret ?_
  exact x_r1 () Try.results114 (rv_cell rfl G107 Z107 (fun w h => h.zaj (i := 0) rfl) rfl) rfl (fun w h => za6 [] (by decide) rfl w h)

/-! ### (*loop.example/g01098/impl.Plan).many: function 115 -/
def impl_Plan_many_2.f (a0_0 : Int) (l0_1 : List SStep) (l0_2 : List Int) : Option Unit := some ()
set_option maxHeartbeats 600000 in
set_option maxRecDepth 100000 in
theorem impl_Plan_many_2.calls {w0 ws : World} {P0 : Nat → Prop} (g0 : Nat) (a0_0 : Int) (A0_1 : Option Addr) (c0_1 : Nat) (n0_1 : Nat) (l0_1 : List SStep) (A0_2 : Option Addr) (c0_2 : Nat) (n0_2 : Nat) (l0_2 : List Int) (Z : Below w0.heap.size w0 ws) (hF : Fr w0 ws P0 [] ws) (R0_1 : Stable ws P0 (fun w => Kd.C kStep w A0_1 n0_1 l0_1)) (hc0_1 : n0_1 ≤ c0_1) (R0_2 : Stable ws P0 (fun w => Kd.C (Kd.int .i64) w A0_2 n0_2 l0_2)) (hc0_2 : n0_2 ≤ c0_2) (B0 : Stable ws P0 (fun w => w.heap[g0]? = some (.cells #[.int .i64 a0_0, .slice A0_1 n0_1 c0_1, .slice A0_2 n0_2 c0_2] 94 (0, 0))))  (h : impl_Plan_many_2.f a0_0 l0_1 l0_2 = some ()) :
    Calls Try.prog 115 #[.pointer (some ⟨g0, 0, none⟩)] ws (Post1 w0 ws P0 (fun (_ : Unit) => .int .i64 (w64 (a0_0 + (l0_1.length : Int)))) (fun (_ : Unit) => [])) := by
  unfold impl_Plan_many_2.f at h
  obtain rfl := (R0_1 ws (KeptB.refl _ _)).1
  obtain rfl := (R0_2 ws (KeptB.refl _ _)).1
  refine enter Try.func115 rfl Try.ntmps115 rfl hF ?_
  refine c_seq ?_
  refine za0 ?_
  refine o_q rfl rfl (q_asg rfl) ?_
  refine o_end ?_
  refine za1 ?_
  refine c_seq ?_
  refine a_start (ds := []) MO rfl ?_
  refine za7 0 rfl rfl rfl (by kernel_rfl) (fun _ _ _ h => h) (za2 rfl) ?_
  refine za7 1 rfl rfl rfl (by kernel_rfl) (fun _ _ _ h => h) (q_nil rfl) ?_
  refine za7 2 rfl rfl rfl (by kernel_rfl) (fun _ _ _ h => h) (q_f F25_0 rfl) ?_
  refine zb2 3 rfl rfl rfl (by kernel_rfl) (fun _ _ _ h => h) (fun w h => h) (q_ldb Y3 rfl (fun w h => B0.now Z h) rfl) ?_
  refine za7 4 rfl rfl rfl (by kernel_rfl) (fun _ _ _ h => h) (za2 rfl) ?_
  refine za7 5 rfl rfl rfl (by kernel_rfl) (fun _ _ _ h => h) (q_nil rfl) ?_
  refine za7 6 rfl rfl rfl (by kernel_rfl) (fun _ _ _ h => h) (q_f F25_1 rfl) ?_
  refine zb2 7 rfl rfl rfl (by kernel_rfl) (fun _ _ _ h => h) (fun w h => h) (q_ldb Y22 rfl (fun w h => B0.now Z h) rfl) ?_
  refine za7 8 rfl rfl rfl (by kernel_rfl) (fun _ _ _ h => h) (q_len Try.underlying22 rfl) ?_
  refine za7 9 rfl rfl rfl (by kernel_rfl) (fun _ _ _ h => h) (zb7 rfl rfl) ?_
  refine za7 10 rfl rfl rfl (by kernel_rfl) (fun _ _ _ h => h) (q_asg rfl) ?_
  refine zan (by kernel_rfl) ?_
  refine za1 ?_
  refine c_ret ?_
  exact x_r1 () Try.results115 (zal rfl) rfl (fun w h => za6 [] (by decide) rfl w h)

/-! ### (*loop.example/g01098/impl.maker).multiply: function 57 -/
def impl_maker_multiply.f (a0_0 : Int) (l0_1 : List SStep) (l0_2 : List Int) (a1 : Int) (a2 : Int) : Option (Int × (List SStep)) := ((impl_step.f a1 a2).bind fun _ => (ap l0_1 ([(⟨mn a1 a2, mx a1 a2⟩ : SStep)] : List SStep)).bind fun l1571 => some l1571).bind fun l962 => (impl_Plan_many_2.f a0_0 l962 l0_2).bind fun _ => some (w64 (w64 (a0_0 + (l962.length : Int)) - 1), l962)
set_option maxHeartbeats 600000 in
set_option maxRecDepth 100000 in
theorem impl_maker_multiply.calls {w0 ws : World} {P0 : Nat → Prop} (g0 : Nat) (a0_0 : Int) (A0_1 : Option Addr) (c0_1 : Nat) (n0_1 : Nat) (l0_1 : List SStep) (A0_2 : Option Addr) (c0_2 : Nat) (n0_2 : Nat) (l0_2 : List Int) (a1 : Int) (a2 : Int) (Z : Below w0.heap.size w0 ws) (hF : Fr w0 ws P0 [box g0 94 #[.int .i64 a0_0, .slice A0_1 n0_1 c0_1, .slice A0_2 n0_2 c0_2], row kStep 107 (.slice A0_1 n0_1 c0_1) l0_1] ws) (R0_2 : Stable ws P0 (fun w => Kd.C (Kd.int .i64) w A0_2 n0_2 l0_2)) (hc0_2 : n0_2 ≤ c0_2) (r_1 : Int) (r_2 : List SStep) (h : impl_maker_multiply.f a0_0 l0_1 l0_2 a1 a2 = some (r_1, r_2)) :
    Calls Try.prog 57 #[.pointer (some ⟨g0, 0, none⟩), .int .i64 a1, .int .i64 a2] ws (Post1 w0 ws P0 (fun ((q_3, q_4) : (Option Addr) × Nat) => .int .i64 r_1) (fun ((q_3, q_4) : (Option Addr) × Nat) => [box g0 94 #[.int .i64 a0_0, .slice q_3 r_2.length q_4, .slice A0_2 n0_2 c0_2], row kStep 107 (.slice q_3 r_2.length q_4) r_2])) := by
  unfold impl_maker_multiply.f at h
  obtain rfl := (hF.row_C (i := 1) rfl).2.1
  obtain rfl := (R0_2 ws (KeptB.refl _ _)).1
  refine enter Try.func57 rfl Try.ntmps57 rfl hF ?_
  refine c_seq ?_
  refine za0 ?_
  refine o_q rfl rfl (q_asg rfl) ?_
  refine o_end ?_
  refine za1 ?_
  refine zab h (fun o965 hl966 hR967 => ?_) rfl
  clear h
  refine c_cutJ (σ := (List SStep) × (Option Addr) × Nat) (fun (l962, A963, c964) => some l962 = some o965) [7, 8, 9, 10, 11, 12, 13, 14, 15, 16, 17, 18, 19, 20] (fun (l962, A963, c964) => []) (fun (l962, A963, c964) => [box g0 94 #[.int .i64 a0_0, .slice A963 l962.length c964, .slice A0_2 l0_2.length c0_2], row kStep 107 (.slice A963 l962.length c964) l962]) ?_ ?_
  · skip
    have h := hl966; clear hl966
    clear hR967
    refine zab h (fun _ hx1451 h => ?_) rfl
    refine zab h (fun l1571 ha1572 h => ?_) rfl
    refine a_startS (ds := []) [none, none] MO rfl ?_
    refine za7 0 rfl rfl rfl (by kernel_rfl) (fun _ _ _ h => h) (za2 rfl) ?_
    refine za7 1 rfl rfl rfl (by kernel_rfl) (fun _ _ _ h => h) (za2 rfl) ?_
    refine za7 2 rfl rfl rfl (by kernel_rfl) (fun _ _ _ h => h) (q_nil rfl) ?_
    refine za7 3 rfl rfl rfl (by kernel_rfl) (fun _ _ _ h => h) (q_f F94_0 rfl) ?_
    refine za7 4 rfl rfl rfl (by kernel_rfl) (fun _ _ _ h => h) (q_f F25_1 rfl) ?_
    refine za7 6 rfl rfl rfl (by kernel_rfl) (fun _ _ _ h => h) (za2 rfl) ?_
    refine za7 7 rfl rfl rfl (by kernel_rfl) (fun _ _ _ h => h) (za2 rfl) ?_
    refine a_two 5 8 rfl rfl rfl rfl (by kernel_rfl) rfl rfl (ev_q rfl (q_ldb Y22 rfl (fun w h => h.zaj (i := 0) rfl) rfl)) (fun s w h => za3 [none, none] (by decide) w h rfl) (za8 0 Z Try.func114 N114 rfl rfl rfl (fun w P1 hF hB hS hT => impl_step.calls a1 a2 hB hF hx1451)) (fun s w h => za3 [none, none] (by decide) w h rfl) (fun _ => ?_) (fun _ => ?_)
    · skip
      refine a_one 8 rfl rfl (by kernel_rfl) rfl (za8 0 Z Try.func114 N114 rfl rfl rfl (fun w P1 hF hB hS hT => impl_step.calls a1 a2 hB hF hx1451)) (fun s w h => za3 [none, none] (by decide) w h rfl) (fun _ => ?_)
      refine a_one 9 rfl rfl (by kernel_rfl) rfl (e_lit (vs := [(0, .agg #[.int .i64 (mn a1 a2), .int .i64 (mx a1 a2)])]) (cs := [.int .i64 (mn a1 a2), .int .i64 (mx a1 a2)]) kStep ([(⟨mn a1 a2, mx a1 a2⟩ : SStep)] : List SStep) Try.underlying22 I107 (by decide) rfl (by decide) rfl rfl (fun _ _ => reps_flat _)) (fun s w h => za3 [none, none] (by decide) w h rfl) (cur2 (fun A1511 c1512 => ?_))
      refine a_one 10 rfl rfl (by kernel_rfl) rfl (e_app (i := 2) (j := 0) Try.underlying22 I107 rfl (by decide) (by decide) rfl rfl rfl rfl rfl ha1572) (fun s w h => za3 [none, none] (by decide) w h rfl) (cur2 (fun A1573 c1574 => ?_))
      refine za7 11 rfl rfl rfl (by kernel_rfl) (fun _ _ _ h => h) (q_nil rfl) ?_
      refine za7 12 rfl rfl rfl (by kernel_rfl) (fun _ _ _ h => h) (q_f F94_0 rfl) ?_
      refine za7 13 rfl rfl rfl (by kernel_rfl) (fun _ _ _ h => h) (q_f F25_1 rfl) ?_
      refine a_one 14 rfl rfl (by kernel_rfl) rfl (zad (i := 1) rfl rfl rfl rfl Z22 rfl rfl) (fun s w h => za3 [none, none] (by decide) w h rfl) (fun _ => ?_)
      refine zan (by kernel_rfl) ?_
      refine zao (l1571, A1573, c1574) h trivial (fun w h => za6 [1, 2] (by decide) rfl w h) ?_
      repeat (first | exact za9 _ _ | refine zae rfl ?_ | refine zaa rfl ?_ | refine zaf rfl ?_)
    · skip
      refine a_two 5 9 rfl rfl rfl rfl (by kernel_rfl) rfl rfl (ev_q rfl (q_ldb Y22 rfl (fun w h => h.zaj (i := 0) rfl) rfl)) (fun s w h => za3 [none, none] (by decide) w h rfl) (e_lit (vs := [(0, .agg #[.int .i64 (mn a1 a2), .int .i64 (mx a1 a2)])]) (cs := [.int .i64 (mn a1 a2), .int .i64 (mx a1 a2)]) kStep ([(⟨mn a1 a2, mx a1 a2⟩ : SStep)] : List SStep) Try.underlying22 I107 (by decide) rfl (by decide) rfl rfl (fun _ _ => reps_flat _)) (fun s w h => za3 [none, none] (by decide) w h rfl) (fun _ => ?_) (cur2 (fun A1511 c1512 => ?_))
      · skip
        refine a_one 9 rfl rfl (by kernel_rfl) rfl (e_lit (vs := [(0, .agg #[.int .i64 (mn a1 a2), .int .i64 (mx a1 a2)])]) (cs := [.int .i64 (mn a1 a2), .int .i64 (mx a1 a2)]) kStep ([(⟨mn a1 a2, mx a1 a2⟩ : SStep)] : List SStep) Try.underlying22 I107 (by decide) rfl (by decide) rfl rfl (fun _ _ => reps_flat _)) (fun s w h => za3 [none, none] (by decide) w h rfl) (cur2 (fun A1511 c1512 => ?_))
        refine a_one 10 rfl rfl (by kernel_rfl) rfl (e_app (i := 2) (j := 0) Try.underlying22 I107 rfl (by decide) (by decide) rfl rfl rfl rfl rfl ha1572) (fun s w h => za3 [none, none] (by decide) w h rfl) (cur2 (fun A1573 c1574 => ?_))
        refine za7 11 rfl rfl rfl (by kernel_rfl) (fun _ _ _ h => h) (q_nil rfl) ?_
        refine za7 12 rfl rfl rfl (by kernel_rfl) (fun _ _ _ h => h) (q_f F94_0 rfl) ?_
        refine za7 13 rfl rfl rfl (by kernel_rfl) (fun _ _ _ h => h) (q_f F25_1 rfl) ?_
        refine a_one 14 rfl rfl (by kernel_rfl) rfl (zad (i := 1) rfl rfl rfl rfl Z22 rfl rfl) (fun s w h => za3 [none, none] (by decide) w h rfl) (fun _ => ?_)
        refine zan (by kernel_rfl) ?_
        refine zao (l1571, A1573, c1574) h trivial (fun w h => za6 [1, 2] (by decide) rfl w h) ?_
        repeat (first | exact za9 _ _ | refine zae rfl ?_ | refine zaa rfl ?_ | refine zaf rfl ?_)
      · skip
        refine a_one 5 rfl rfl (by kernel_rfl) rfl (ev_q rfl (q_ldb Y22 rfl (fun w h => h.zaj (i := 1) rfl) rfl)) (fun s w h => za3 [none, none] (by decide) w h rfl) (fun _ => ?_)
        refine a_one 10 rfl rfl (by kernel_rfl) rfl (e_app (i := 2) (j := 0) Try.underlying22 I107 rfl (by decide) (by decide) rfl rfl rfl rfl rfl ha1572) (fun s w h => za3 [none, none] (by decide) w h rfl) (cur2 (fun A1573 c1574 => ?_))
        refine za7 11 rfl rfl rfl (by kernel_rfl) (fun _ _ _ h => h) (q_nil rfl) ?_
        refine za7 12 rfl rfl rfl (by kernel_rfl) (fun _ _ _ h => h) (q_f F94_0 rfl) ?_
        refine za7 13 rfl rfl rfl (by kernel_rfl) (fun _ _ _ h => h) (q_f F25_1 rfl) ?_
        refine a_one 14 rfl rfl (by kernel_rfl) rfl (zad (i := 1) rfl rfl rfl rfl Z22 rfl rfl) (fun s w h => za3 [none, none] (by decide) w h rfl) (fun _ => ?_)
        refine zan (by kernel_rfl) ?_
        refine zao (l1571, A1573, c1574) h trivial (fun w h => za6 [1, 2] (by decide) rfl w h) ?_
        repeat (first | exact za9 _ _ | refine zae rfl ?_ | refine zaa rfl ?_ | refine zaf rfl ?_)
  · skip
    refine (cur3 (fun l962 A963 c964 => fun U968 hJ969 => ?_))
    have e_ := Option.some.inj hJ969; have h := hR967; rw [← e_] at h; clear e_ hJ969 hR967 hl966
    refine c_seq ?_
    refine za0 ?_
    refine o_q rfl rfl (za2 rfl) ?_
    refine o_q rfl rfl (q_nil rfl) ?_
    refine o_q rfl rfl (q_f F94_0 rfl) ?_
    refine zab h (fun _ hx1931 h => ?_) rfl
    refine o_e rfl (za8 0 Z Try.func115 N115 rfl rfl rfl (fun w P1 hF hB hS hT => impl_Plan_many_2.calls g0 a0_0 A963 c964 l962.length l962 A0_2 c0_2 l0_2.length l0_2 hB hF (hT 1 _ rfl).row (hT 1 _ rfl).cap (hS _ R0_2) hc0_2 (hT 0 _ rfl).box hx1931)) (fun _ => ?_)
    refine o_q rfl rfl (zb5 rfl rfl) ?_
    refine o_q rfl rfl (q_asg rfl) ?_
    refine o_end ?_
    refine za1 ?_
    refine c_ret ?_
    have e0_ := Option.some.inj h; clear h
    have d0_ := (Prod.mk.inj e0_).1; have e1_ := (Prod.mk.inj e0_).2; clear e0_; subst d0_
    subst e1_
    exact x_r1 (A963, c964) Try.results57 (zal rfl) rfl (fun w h => za6 [0, 1] (by decide) rfl w h)

/-! ### (*loop.example/g01098/impl.maker).squared: function 59 -/
def impl_maker_squared.l0 (a0_0 : Int) (l0_2 : List Int) : Nat → (List SStep) → Int → Int → Option ((List SStep) × Int)
  | 0, l1, i4, i5 => some (l1, i4)
  | k8 + 1, l1, i4, i5 => (impl_maker_multiply.f a0_0 l1 l0_2 i4 i4).bind fun (i18, l19) => impl_maker_squared.l0 a0_0 l0_2 k8 l19 i18 (i5 + 1)
def impl_maker_squared.f (a0_0 : Int) (l0_1 : List SStep) (l0_2 : List Int) (a1 : Int) (a2 : Int) : Option (Int × (List SStep)) := (bd a2).bind fun _ => (impl_maker_squared.l0 a0_0 l0_2 ((a2).toNat) l0_1 a1 0).bind fun (l1, i4) => some (i4, l1)
set_option maxHeartbeats 600000 in
set_option maxRecDepth 100000 in
theorem impl_maker_squared.calls {w0 ws : World} {P0 : Nat → Prop} (g0 : Nat) (a0_0 : Int) (A0_1 : Option Addr) (c0_1 : Nat) (n0_1 : Nat) (l0_1 : List SStep) (A0_2 : Option Addr) (c0_2 : Nat) (n0_2 : Nat) (l0_2 : List Int) (a1 : Int) (a2 : Int) (Z : Below w0.heap.size w0 ws) (hF : Fr w0 ws P0 [box g0 94 #[.int .i64 a0_0, .slice A0_1 n0_1 c0_1, .slice A0_2 n0_2 c0_2], row kStep 107 (.slice A0_1 n0_1 c0_1) l0_1] ws) (R0_2 : Stable ws P0 (fun w => Kd.C (Kd.int .i64) w A0_2 n0_2 l0_2)) (hc0_2 : n0_2 ≤ c0_2) (r_1 : Int) (r_2 : List SStep) (h : impl_maker_squared.f a0_0 l0_1 l0_2 a1 a2 = some (r_1, r_2)) :
    Calls Try.prog 59 #[.pointer (some ⟨g0, 0, none⟩), .int .i64 a1, .int .i64 a2] ws (Post1 w0 ws P0 (fun ((q_3, q_4) : (Option Addr) × Nat) => .int .i64 r_1) (fun ((q_3, q_4) : (Option Addr) × Nat) => [box g0 94 #[.int .i64 a0_0, .slice q_3 r_2.length q_4, .slice A0_2 n0_2 c0_2], row kStep 107 (.slice q_3 r_2.length q_4) r_2])) := by
  unfold impl_maker_squared.f at h
  obtain rfl := (hF.row_C (i := 1) rfl).2.1
  obtain rfl := (R0_2 ws (KeptB.refl _ _)).1
  refine enter Try.func59 rfl Try.ntmps59 rfl hF ?_
  refine c_seq ?_
  refine za0 ?_
  refine o_q rfl rfl (q_asg rfl) ?_
  refine o_end ?_
  refine za1 ?_
  refine c_seq ?_
  refine c_seq ?_
  refine za0 ?_
  refine o_q rfl rfl (za2 rfl) ?_
  refine o_q rfl rfl (za2 rfl) ?_
  refine o_end ?_
  refine za1 ?_
  refine zaq ?_
  refine zab h (fun _ hbd14 h => ?_) rfl
  refine zab h (fun o13 hl12 hR11 => ?_) rfl
  clear h
  have hm10 : a2 ≤ 9223372036854775807 := bd_le hbd14
  refine zb3 (σ := (List SStep) × Int × Int × (Option Addr) × Nat) (fun k8 ((l1, i4, i5, A2, c3) : (List SStep) × Int × Int × (Option Addr) × Nat) => Cn a2 i5 k8 ∧ impl_maker_squared.l0 a0_0 l0_2 k8 l1 i4 i5 = some o13) [1, 8, 9, 10, 11, 12, 13, 14] (fun ((l1, i4, i5, A2, c3) : (List SStep) × Int × Int × (Option Addr) × Nat) => [(1, .int .i64 i4), (8, .int .i64 i5)]) (fun ((l1, i4, i5, A2, c3) : (List SStep) × Int × Int × (Option Addr) × Nat) => [box g0 94 #[.int .i64 a0_0, .slice A2 l1.length c3, .slice A0_2 l0_2.length c0_2], row kStep 107 (.slice A2 l1.length c3) l1]) (a2).toNat (l0_1, a1, 0, A0_1, c0_1) ⟨Cn.start hm10, hl12⟩ ⟨rfl, rfl, trivial⟩ (fun w h => h) ?_
  refine natC (cur5 (fun l1 i4 i5 A2 c3 => fun U15 hJ_ => ?_)) (fun k8 => (cur5 (fun l1 i4 i5 A2 c3 => fun U15 hJ_ => ?_)))
  · skip
    clear hl12
    have hr9 := hJ_.1; have h := hJ_.2; clear hJ_
    replace h : impl_maker_squared.l0 a0_0 l0_2 0 l1 i4 i5 = some o13 := h
    rw [impl_maker_squared.l0] at h
    refine c_seq ?_
    refine za0 ?_
    refine o_q rfl rfl (q_lss rfl rfl) ?_
    refine o_end ?_
    refine za1 ?_
    refine c_seq ?_
    refine c_false (congrArg Value.bool hr9.ge) ?_
    refine c_exit ?_
    refine zac ?_
    refine zac ?_
    have e_ := Option.some.inj h; replace h := hR11; rw [← e_] at h; clear e_
    refine x_hit ?_
    refine za1 ?_
    refine c_seq ?_
    refine za0 ?_
    refine o_q rfl rfl (za2 rfl) ?_
    refine o_q rfl rfl (q_asg rfl) ?_
    refine o_end ?_
    refine za1 ?_
    refine c_ret ?_
    have e0_ := Option.some.inj h; clear h
    have d0_ := (Prod.mk.inj e0_).1; have e1_ := (Prod.mk.inj e0_).2; clear e0_; subst d0_
    subst e1_
    exact x_r1 (A2, c3) Try.results59 (zal rfl) rfl (fun w h => za6 [0, 1] (by decide) rfl w h)
  · skip
    clear hl12
    have hr9 := hJ_.1; have h := hJ_.2; clear hJ_
    replace h : impl_maker_squared.l0 a0_0 l0_2 (k8 + 1) l1 i4 i5 = some o13 := h
    rw [impl_maker_squared.l0] at h
    refine c_seq ?_
    refine za0 ?_
    refine o_q rfl rfl (q_lss rfl rfl) ?_
    refine o_end ?_
    refine za1 ?_
    refine c_seq ?_
    refine c_true (congrArg Value.bool hr9.lt) ?_
    refine zat ?_
    refine za1 ?_
    refine c_seq ?_
    refine zaq ?_
    refine za0 ?_
    refine o_q rfl rfl (za2 rfl) ?_
    refine o_q rfl rfl (za2 rfl) ?_
    refine o_q rfl rfl (za2 rfl) ?_
    refine bindE2 h (fun i18 l19 hx17 h => ?_) rfl
    refine o_e rfl (za8 2 Z Try.func57 N57 rfl rfl rfl (fun w P1 hF hB hS hT => impl_maker_multiply.calls g0 a0_0 A2 c3 l1.length l1 A0_2 c0_2 l0_2.length l0_2 i4 i4 hB hF (hS _ R0_2) hc0_2 _ _ hx17)) (cur2 (fun A20 c21 => ?_))
    refine o_q rfl rfl (q_asg rfl) ?_
    refine o_end ?_
    refine zas ?_
    refine za1 ?_
    refine za0 ?_
    refine o_q rfl rfl (q_up rfl rfl hr9.up) ?_
    refine o_q rfl rfl (za2 rfl) ?_
    refine o_end ?_
    refine zar k8 (l19, i18, i5 + 1, A20, c21) (Nat.lt_succ_self _) ⟨hr9.step, h⟩ ⟨rfl, rfl, trivial⟩ (fun w h => za6 [0, 1] (by decide) rfl w h) ?_
    repeat (first | exact za9 _ _ | refine zae rfl ?_ | refine zaa rfl ?_ | refine zaf rfl ?_)

/-! ### (*loop.example/g01098/impl.maker).plan: function 60 -/
def impl_maker_plan.f (a0_0 : Int) (l0_1 : List SStep) (l0_2 : List Int) (l1 : List Int) : Option Unit := some ()
set_option maxHeartbeats 600000 in
set_option maxRecDepth 100000 in
theorem impl_maker_plan.calls {w0 ws : World} {P0 : Nat → Prop} (g0 : Nat) (a0_0 : Int) (A0_1 : Option Addr) (c0_1 : Nat) (n0_1 : Nat) (l0_1 : List SStep) (A0_2 : Option Addr) (c0_2 : Nat) (n0_2 : Nat) (l0_2 : List Int) (A1 : Option Addr) (c1 : Nat) (n1 : Nat) (l1 : List Int) (Z : Below w0.heap.size w0 ws) (hF : Fr w0 ws P0 [box g0 94 #[.int .i64 a0_0, .slice A0_1 n0_1 c0_1, .slice A0_2 n0_2 c0_2], row kStep 107 (.slice A0_1 n0_1 c0_1) l0_1, row (Kd.int .i64) 3 (.slice A1 n1 c1) l1] ws) (R0_2 : Stable ws P0 (fun w => Kd.C (Kd.int .i64) w A0_2 n0_2 l0_2)) (hc0_2 : n0_2 ≤ c0_2)  (h : impl_maker_plan.f a0_0 l0_1 l0_2 l1 = some ()) :
    Calls Try.prog 60 #[.pointer (some ⟨g0, 0, none⟩), .slice A1 n1 c1] ws (Post1 w0 ws P0 (fun (_ : Unit) => .agg #[.int .i64 a0_0, .slice A0_1 n0_1 c0_1, .slice A1 n1 c1]) (fun (_ : Unit) => [row kStep 107 (.slice A0_1 n0_1 c0_1) l0_1, row (Kd.int .i64) 3 (.slice A1 n1 c1) l1, box g0 94 #[.int .i64 a0_0, .slice A0_1 n0_1 c0_1, .slice A1 n1 c1]])) := by
  unfold impl_maker_plan.f at h
  obtain rfl := (hF.row_C (i := 1) rfl).2.1
  obtain rfl := (hF.row_C (i := 2) rfl).2.1
  obtain rfl := (R0_2 ws (KeptB.refl _ _)).1
  refine enter Try.func60 rfl Try.ntmps60 rfl hF ?_
  refine c_seq ?_
  refine za0 ?_
  refine o_e rfl (zam V25 rfl) (fun g1 => ?_)
  refine o_end ?_
  refine za1 ?_
  refine c_seq ?_
  refine za0 ?_
  refine o_q rfl rfl (za2 rfl) ?_
  refine o_q rfl rfl (za2 rfl) ?_
  refine o_q rfl rfl (q_nil rfl) ?_
  refine o_q rfl rfl (q_f F94_0 rfl) ?_
  refine o_q rfl rfl (q_f F25_2 rfl) ?_
  refine o_e rfl (zad (i := 1) rfl rfl rfl rfl Z23 rfl rfl) (fun _ => ?_)
  refine o_end ?_
  refine za1 ?_
  refine c_seq ?_
  refine za0 ?_
  refine o_q rfl rfl (za2 rfl) ?_
  refine o_q rfl rfl (q_nil rfl) ?_
  refine o_q rfl rfl (q_f F94_0 rfl) ?_
  refine o_q rfl rfl (q_ldB G25 Z25 rfl (fun w h => h.zaj (i := 1) rfl) rfl) ?_
  refine o_e rfl (zav (i := 0) rfl rfl rfl Z25 rfl rfl) (fun _ => ?_)
  refine o_end ?_
  refine za1 ?_
  refine c_ret ?_
  exact x_r1 () Try.results60 (rv_cell rfl G25 Z25 (fun w h => h.zaj (i := 0) rfl) rfl) rfl (fun w h => za6 [2, 3, 1] (by decide) rfl w h)

/-! ### slices.Backward at []Step, by hand -/
set_option maxRecDepth 100000 in
theorem bk_Step {w : World} {P1 : Nat → Prop} (Bs : Nat) (A : Option Addr) (cap : Nat) (zs : List SStep) (hR : Stable w P1 (fun W => Kd.C kStep W A zs.length zs)) (hB : Stable w P1 (fun W => W.heap[Bs]? = some (.cells #[.slice A zs.length cap] 22 (0, 0)))) :
    SeqStopsK Fence.wide 2 Try.prog 163 #[.pointer (some ⟨Bs, 0, none⟩)] (fun x : BackT zs => #[Value.int .i64 x.1.1, .agg #[.int .i64 x.1.2.f0, .int .i64 x.1.2.f1]]) (KpS w P1) (fun ys => ys.map Subtype.val = bwL zs) (fun _ => True) zs.length w := by
  intro l J Jx W hW hJ hJx hY h0
  have hk0 : KeptB w W P1 := ⟨⟨hW.size, fun i hi _ => hW.block i hi⟩, hW.os, hW.tape, hW.output⟩
  have hlen : zs.length ≤ 9223372036854775807 := (hR w (KeptB.refl _ _)).2.1
  refine enterG (m := 19) Try.func163 rfl Try.ntmps163 rfl ?_
  refine wpIn_seq (wpIn_region_list ?_)
  refine g_q (fun c hc => by cases hc) rfl rfl (q_ldb (bt := 22) Y22 rfl (fun w' h' => by subst h'; exact hB _ hk0) rfl) ?_
  refine g_q (fun c hc => by cases hc) rfl rfl (q_len Try.underlying22 rfl) ?_
  refine g_q (fun c hc => by cases hc) rfl rfl (zb5 rfl rfl) ?_
  refine g_q (fun c hc => by cases hc) rfl rfl (q_asg rfl) ?_
  refine wpListIn_nil ?_
  refine wpIn_block ?_
  refine wpIn_loop_ghost (fun m a W' => ∃ (e : Nat → Value) (pre : List (BackT zs)), m ≤ zs.length ∧ a = act ⟨19, [], none⟩ e ∧ e 0 = .func (.yield l) #[] #[] ∧ e 1 = .pointer (some ⟨Bs, 0, none⟩) ∧ e 3 = .int .i64 ((m : Int) - 1) ∧ pre.map Subtype.val = (bwL zs).take (zs.length - m) ∧ J pre W' ∧ KeptB w W' P1) zs.length ⟨_, [], Nat.le_refl _, rfl, rfl, rfl, ?_, by simp, h0, hk0⟩ ?_
  · show Value.int .i64 (w64 ((zs.length : Int) - 1)) = _
    rw [zay (by omega)]
  rintro m a W' ⟨e, pre, hm, rfl, he0, he1, he3, hpre, hJp, hk⟩
  have hpl : pre.length = zs.length - m := by
    have := congrArg List.length hpre
    rw [List.length_map, List.length_take, bwL_len] at this
    omega
  refine wpIn_seq (wpIn_seq (wpIn_region_list ?_))
  refine g_q (fun c hc => by cases hc) rfl rfl (za2 he3) ?_
  refine g_q (fun c hc => by cases hc) rfl rfl (q_geq rfl rfl) ?_
  refine wpListIn_nil ?_
  cases m with
  | zero =>
    refine wpIn_cond_false rfl (wpIn_exit ?_)
    refine exth (exth (inblk ?_))
    refine ⟨rfl, _, results_none rfl _ _ _, ⟨_, rfl⟩, .inl ⟨pre, ?_, hJp⟩⟩
    show pre.map Subtype.val = _
    rw [hpre, Nat.sub_zero, List.take_of_length_le (by rw [bwL_len]; exact Nat.le_refl _)]
  | succ m =>
    refine wpIn_cond_true ?_ (wpIn_skip ?_)
    · rw [act_eval]
      show Value.bool (decide ((0 : Int) ≤ ((m + 1 : Nat) : Int) - 1)) = _
      rw [decide_eq_true (by omega)]
    refine wpIn_seq (wpIn_block (wpIn_seq (wpIn_region_list ?_)))
    have e3 : e 3 = .int .i64 (m : Int) := by rw [he3]; congr 1; omega
    have hml : m < zs.length := hm
    have hC := hR W' hk
    refine g_q (fun c hc => by cases hc) rfl rfl (za2 he0) ?_
    refine g_q (fun c hc => by cases hc) rfl rfl (za2 e3) ?_
    refine g_q (fun c hc => by cases hc) rfl rfl (q_ldb (bt := 22) Y22 he1 (fun w' h' => by subst h'; exact hB _ hk) rfl) ?_
    refine g_q (fun c hc => by cases hc) rfl rfl (za2 e3) ?_
    refine g_q (fun c hc => by cases hc) rfl rfl (q_ix (xs := zs) Try.underlying22 Z107 rfl rfl (C_sh hC) (gt_at hml)) ?_
    refine g_q (fun c hc => by cases hc) rfl rfl (q_ldE G107 Z107 rfl rfl (fun w' h' => by subst h'; exact hC) (gt_at hml) (fun _ _ h => h) rfl) ?_
    have hx : ∃ j : Nat, ((m : Int), zs[m]).1 = (j : Int) ∧ zs[j]? = some ((m : Int), zs[m]).2 := ⟨m, rfl, List.getElem?_eq_getElem hml⟩
    refine g_yield rfl rfl rfl rfl (hY pre ⟨((m : Int), zs[m]), hx⟩ W' hJp (by omega)) (fun e w' h => by rcases h with ⟨rfl, _⟩ | ⟨rfl, _⟩ <;> exact ⟨_, rfl⟩) ?_
    rintro v W3 (⟨hv, hJ3, hk3⟩ | ⟨hv, hJx3⟩)
    · obtain rfl := Ending.returned.inj hv
      refine g_q (fun c hc => by cases hc) rfl rfl (q_not rfl) ?_
      refine wpListIn_nil ?_
      refine wpIn_cond_false rfl (wpIn_skip ?_)
      refine wpIn_region_list ?_
      refine g_q (fun c hc => by cases hc) rfl rfl (za2 e3) ?_
      refine g_q (fun c hc => by cases hc) rfl rfl (zb5 rfl rfl) ?_
      refine g_q (fun c hc => by cases hc) rfl rfl (q_asg rfl) ?_
      refine wpListIn_nil ?_
      refine ⟨m, Nat.lt_succ_self m, _, pre ++ [⟨((m : Int), zs[m]), hx⟩], by omega, rfl, he0, he1, ?_, ?_, hJ3, hk3 hk⟩
      · show Value.int .i64 (w64 ((m : Int) - 1)) = _
        rw [zay (by omega)]
      · rw [List.map_append, hpre]
        have ht := bwL_take zs (zs.length - (m + 1)) (by omega)
        have ei : zs.length - 1 - (zs.length - (m + 1)) = m := by omega
        rw [show zs.length - (m + 1) + 1 = zs.length - m by omega] at ht
        rw [ht]
        congr 1
        simp only [ei, List.map_cons, List.map_nil]
    · obtain rfl := Ending.returned.inj hv
      refine g_q (fun c hc => by cases hc) rfl rfl (q_not rfl) ?_
      refine wpListIn_nil ?_
      refine wpIn_cond_true rfl (wpIn_ret ?_)
      exact ⟨rfl, _, results_none rfl _ _ _, ⟨_, rfl⟩, .inr ⟨_, trivial, hJx3⟩⟩
theorem bkc_Step.calls {w0 ws : World} {P0 : Nat → Prop} (A : Option Addr) (n c : Nat) (hF : Fr w0 ws P0 [] ws) : Calls Try.prog 149 #[.slice A n c] ws (Post1 w0 ws P0 (fun (q : Nat) => .func (.func 163) #[] #[.pointer (some ⟨q, 0, none⟩)]) (fun (q : Nat) => [box q 22 #[.slice A n c]])) := by
  refine enter Try.func149 rfl Try.ntmps149 rfl hF ?_
  refine c_seq ?_
  refine za0 ?_
  refine o_e rfl (e_box rfl) (fun g1 => ?_)
  refine o_q rfl rfl (q_asg rfl) ?_
  refine o_end ?_
  refine za1 ?_
  refine c_seq ?_
  refine za0 ?_
  refine o_q rfl rfl (q_func (f := .func 163) (a := []) (b := [.tmp 1]) rfl rfl) ?_
  refine o_q rfl rfl (q_asg rfl) ?_
  refine o_end ?_
  refine za1 ?_
  refine c_ret ?_
  exact x_r1 g1 Try.results149 (zal rfl) rfl (fun w h => h)

/-! ### (*Plan).used, by hand: a range over slices.Backward -/
/-- A round: the factors of a used step are used. -/
def impl_Plan_used.b (I : Int) (s : List Bool) (x : Int × SStep) : List Bool := if s.getD (I + x.1).toNat false = true then (s.set x.2.f0.toNat true).set x.2.f1.toNat true else s
def impl_Plan_used.l0 : (List Int) → (List Bool) → Int → Option (List Bool)
  | [], l11, i12 => some l11
  | y13 :: ys14, l11, i12 => (gt l11 y13).bind fun y46 => (st l11 y13 true).bind fun l47 => impl_Plan_used.l0 ys14 l47 (i12 + 1)
/-- As the rounds may come in any order: all steps must be right. -/
def impl_Plan_used.f (a0_0 : Int) (l0_1 : List SStep) (l0_2 : List Int) : Option (List Bool) := (impl_Plan_many.f a0_0 l0_1 l0_2).bind fun _ => (mk0 (w64 (a0_0 + (l0_1.length : Int))) false).bind fun l4 => (impl_Plan_used.l0 l0_2 l4 0).bind fun l11 =>
  if (0 ≤ a0_0 ∧ a0_0 ≤ 1000 ∧ l0_1.length ≤ 1000 ∧ l4.length = (a0_0 + (l0_1.length : Int)).toNat ∧ l11.length = (a0_0 + (l0_1.length : Int)).toNat) ∧ ∀ y ∈ l0_1, (0 ≤ y.f0 ∧ y.f0 < a0_0 + (l0_1.length : Int)) ∧ (0 ≤ y.f1 ∧ y.f1 < a0_0 + (l0_1.length : Int)) then some ((bwL l0_1).foldl (impl_Plan_used.b a0_0) l11) else none
theorem impl_Plan_used.blen (I : Int) (s : List Bool) (x : Int × SStep) : (impl_Plan_used.b I s x).length = s.length := by
  unfold impl_Plan_used.b
  split <;> simp
theorem impl_Plan_used.flen {zs : List SStep} (I : Int) (pre : List (BackT zs)) (s : List Bool) : (pre.foldl (fun s x => impl_Plan_used.b I s x.1) s).length = s.length := by
  induction pre generalizing s with
  | nil => rfl
  | cons x pre ih => rw [List.foldl_cons, ih, impl_Plan_used.blen]
theorem gt_getD {s : List Bool} {i : Int} (h0 : 0 ≤ i) (h1 : i < (s.length : Int)) : gt s i = some (s.getD i.toNat false) := by
  unfold gt
  rw [if_pos h0, List.getD_eq_getElem?_getD, List.getElem?_eq_getElem (by omega)]
  rfl
theorem st_ok {s : List Bool} {i : Int} (h0 : 0 ≤ i) (h1 : i < (s.length : Int)) : st s i true = some (s.set i.toNat true) := by
  unfold st
  rw [if_pos ⟨h0, h1⟩]
set_option maxHeartbeats 1600000 in
set_option maxRecDepth 100000 in
theorem impl_Plan_used.calls {w0 ws : World} {P0 : Nat → Prop} (g0 : Nat) (a0_0 : Int) (A0_1 : Option Addr) (c0_1 : Nat) (n0_1 : Nat) (l0_1 : List SStep) (A0_2 : Option Addr) (c0_2 : Nat) (n0_2 : Nat) (l0_2 : List Int) (Z : Below w0.heap.size w0 ws) (hF : Fr w0 ws P0 [] ws) (R0_1 : Stable ws P0 (fun w => Kd.C kStep w A0_1 n0_1 l0_1)) (hc0_1 : n0_1 ≤ c0_1) (R0_2 : Stable ws P0 (fun w => Kd.C (Kd.int .i64) w A0_2 n0_2 l0_2)) (hc0_2 : n0_2 ≤ c0_2) (B0 : Stable ws P0 (fun w => w.heap[g0]? = some (.cells #[.int .i64 a0_0, .slice A0_1 n0_1 c0_1, .slice A0_2 n0_2 c0_2] 25 (0, 0)))) (r_1 : List Bool) (h : impl_Plan_used.f a0_0 l0_1 l0_2 = some r_1) :
    Calls Try.prog 117 #[.pointer (some ⟨g0, 0, none⟩)] ws (Post1 w0 ws P0 (fun ((q_2, q_3) : (Option Addr) × Nat) => .slice q_2 r_1.length q_3) (fun ((q_2, q_3) : (Option Addr) × Nat) => [row Kd.bool 4 (.slice q_2 r_1.length q_3) r_1])) := by
  unfold impl_Plan_used.f at h
  obtain rfl := (R0_1 ws (KeptB.refl _ _)).1
  obtain rfl := (R0_2 ws (KeptB.refl _ _)).1
  refine enterM Try.func117 rfl Try.ntmps117 rfl hF ?_
  refine c_seq ?_
  refine za0 ?_
  refine o_e rfl (e_box rfl) (fun g1 => ?_)
  refine o_q rfl rfl (q_asg rfl) ?_
  refine o_end ?_
  refine za1 ?_
  refine c_seq ?_
  refine za0 ?_
  refine o_q rfl rfl (q_ldb Y102 rfl (fun w h => h.zaj (i := 0) rfl) rfl) ?_
  refine zab h (fun _ hx3 h => ?_) rfl
  refine o_e rfl (za8 0 Z Try.func115 N115 rfl rfl rfl (fun w P1 hF hB hS hT => impl_Plan_many.calls g0 a0_0 A0_1 c0_1 l0_1.length l0_1 A0_2 c0_2 l0_2.length l0_2 hB hF (hS _ R0_1) hc0_1 (hS _ R0_2) hc0_2 (hS _ B0) hx3)) (fun _ => ?_)
  refine zab h (fun l4 hm5 h => ?_) rfl
  refine o_e rfl (e_make Kd.bool false Try.underlying117 I4 rfl (by decide) (by decide) (fun _ _ => rfl) rfl rfl hm5) (cur2 (fun A6 c7 => ?_))
  refine o_e rfl (zam V117 rfl) (fun g9 => ?_)
  refine o_e rfl (zad (i := 0) rfl rfl rfl rfl Z117 rfl rfl) (fun _ => ?_)
  refine o_end ?_
  refine za1 ?_
  refine c_seq ?_
  refine c_seq ?_
  refine za0 ?_
  refine o_q rfl rfl (q_ldb Y102 rfl (fun w h => h.zaj (i := 2) rfl) rfl) ?_
  refine o_q rfl rfl (q_nil rfl) ?_
  refine o_q rfl rfl (q_f F25_2 rfl) ?_
  refine o_q rfl rfl (q_ldb Y23 rfl (fun w h => B0.now Z h) rfl) ?_
  refine o_q rfl rfl (q_len Try.underlying23 rfl) ?_
  refine o_q rfl rfl (za2 rfl) ?_
  refine o_end ?_
  refine za1 ?_
  refine zaq ?_
  refine zab h (fun o20 hl19 hR18 => ?_) rfl
  clear h
  refine c_fact (p := l0_2.length ≤ 9223372036854775807) (fun w h => (R0_2.now Z h).2.1) (fun hm17 => ?_)
  refine zb3 (σ := (List Int) × (List Bool) × Int) (fun k15 ((ys14, l11, i12) : (List Int) × (List Bool) × Int) => Rg l0_2 i12 ys14 ∧ ys14.length = k15 ∧ impl_Plan_used.l0 ys14 l11 i12 = some o20) [5, 16, 17, 18, 19, 20, 21, 22, 23] (fun ((ys14, l11, i12) : (List Int) × (List Bool) × Int) => [(16, .int .i64 i12)]) (fun ((ys14, l11, i12) : (List Int) × (List Bool) × Int) => [box g9 117 #[.slice A6 l4.length c7], row Kd.bool 4 (.slice A6 l4.length c7) l11, box g1 102 #[.pointer (some ⟨g0, 0, none⟩)]]) l0_2.length (l0_2, l4, 0) ⟨Rg.start _, rfl, hl19⟩ ⟨rfl, trivial⟩ (fun w h => h) ?_
  refine fun k15 => cur3 (listC (fun l11 i12 U21 hJ_ => ?_) (fun y13 ys14 l11 i12 U21 hJ_ => ?_))
  · skip
    clear hl19
    have hr16 := hJ_.1; have hk22 := hJ_.2.1; have h := hJ_.2.2; clear hJ_
    replace h : impl_Plan_used.l0 [] l11 i12 = some o20 := h
    rw [impl_Plan_used.l0] at h
    refine c_seq ?_
    refine za0 ?_
    refine o_q rfl rfl (q_lss rfl rfl) ?_
    refine o_end ?_
    refine za1 ?_
    refine c_seq ?_
    refine c_false (congrArg Value.bool hr16.ge) ?_
    refine c_exit ?_
    refine zac ?_
    refine zac ?_
    have e_ := Option.some.inj h; replace h := hR18; rw [← e_] at h; clear e_
    refine x_hit ?_
    refine za1 ?_
    refine c_seq ?_
    refine c_seq ?_
    refine za0 ?_
    refine o_q rfl rfl (q_ldb Y102 rfl (fun w h => h.zaj (i := 2) rfl) rfl) ?_
    refine o_q rfl rfl (q_nil rfl) ?_
    refine o_q rfl rfl (q_f F25_1 rfl) ?_
    refine o_q rfl rfl (q_ldb Y22 rfl (fun w h => B0.now Z h) rfl) ?_
    refine o_e rfl (za8 0 Z Try.func149 N149 rfl rfl rfl (fun w P1 hF hB hS hT => bkc_Step.calls A0_1 l0_1.length c0_1 hF)) (fun Bs => ?_)
    refine o_end ?_
    refine za1 ?_
    refine zaq ?_
    split at h
    rotate_left
    · cases h
    next hok =>
    obtain ⟨⟨o1, o2, o3, o4, o5⟩, o6⟩ := hok
    have e0_ := Option.some.inj h; clear h
    -- the range
    intro w hw
    have hw1 : Fr w0 ws P0 ([box g9 117 #[.slice A6 l4.length c7], row Kd.bool 4 (.slice A6 l4.length c7) l11, box g1 102 #[.pointer (some ⟨g0, 0, none⟩)]] ++ [box Bs 22 #[.slice A0_1 l0_1.length c0_1]]) w := za6 [1, 2, 3, 0] (by decide) rfl w hw
    obtain ⟨P2, hF2, hst, hbx, hc2, hback⟩ := hw1.here Z
    have hZ2 : Below w0.heap.size w0 w := hF2.bel
    have hBs := Own.box (hbx 0 _ rfl)
    refine wpIn_any (N := ⟨49, [], none⟩) (n := 3) ?_
    refine wp_range (σ := List Bool) (α := BackT l0_1) (fun x => #[Value.int .i64 x.1.1, .agg #[.int .i64 x.1.2.f0, .int .i64 x.1.2.f1]]) (fun _ => rfl) l11 (fun s x => impl_Plan_used.b a0_0 s x.1)
      (fun s => [box g9 117 #[.slice A6 l4.length c7], row Kd.bool 4 (.slice A6 l4.length c7) s, box g1 102 #[.pointer (some ⟨g0, 0, none⟩)]])
      (fun s x q => [box q 107 #[.int .i64 x.1.2.f0, .int .i64 x.1.2.f1], box g9 117 #[.slice A6 l4.length c7], row Kd.bool 4 (.slice A6 l4.length c7) s, box g1 102 #[.pointer (some ⟨g0, 0, none⟩)]])
      (fun x => [(30, .agg #[.int .i64 x.1.2.f0, .int .i64 x.1.2.f1]), (29, .int .i64 x.1.1)]) (fun x q => [(7, .pointer (some ⟨q, 0, none⟩)), (6, .int .i64 x.1.1), (30, .agg #[.int .i64 x.1.2.f0, .int .i64 x.1.2.f1]), (29, .int .i64 x.1.1)])
      rfl (enters9 Try.func163 N163 rfl) hF2 (bk_Step Bs A0_1 c0_1 l0_1 (hst _ R0_1) hBs) ?_ ?_ (fun s x q W P3 W' h => za6 [1, 2, 3] (by decide) rfl _ h) ?_ ?_ ?_
    · intro x
      exact act_zip2
    · intro s s' W h1 h2
      have e1 := h1.row_C (i := 1) rfl
      have e2 := h2.row_C (i := 1) rfl
      exact bool_det (by omega) e1.1 e2.1
    · -- the loop's variables
      intro l s x W P3 Z3 hst3
      refine c_seq ?_
      refine za0 ?_
      refine o_q rfl rfl (q_asg rfl) ?_
      refine o_end ?_
      refine za1 ?_
      refine za0 ?_
      refine o_e rfl (zam V107 rfl) (fun g26 => ?_)
      refine o_e rfl (zav (i := 0) rfl rfl rfl Z107 rfl rfl) (fun _ => ?_)
      refine o_end ?_
      intro w' hw'
      exact ⟨g26, rfl, hw'⟩
    · -- a round
      intro l pre x g26 W P3 Z3 hst3 hlen
      have B0' := hst3 _ (hst _ B0)
      obtain ⟨j, hj1, hj2⟩ := x.2
      have hjl := (List.getElem?_eq_some_iff.1 hj2).1
      have hfl := impl_Plan_used.flen a0_0 pre l11
      obtain ⟨⟨q0, q1⟩, ⟨q2, q3⟩⟩ := o6 x.1.2 (List.mem_of_getElem? hj2)
      generalize pre.foldl (fun s x => impl_Plan_used.b a0_0 s x.1) l11 = s at hfl ⊢
      have hsl : (s.length : Int) = a0_0 + (l0_1.length : Int) := by omega
      have hww : w64 (a0_0 + x.1.1) = a0_0 + x.1.1 := zay (by omega)
      have hg29 : gt s (w64 (a0_0 + x.1.1)) = some (s.getD (a0_0 + x.1.1).toNat false) := by rw [hww]; exact gt_getD (by omega) (by omega)
      refine zaq ?_
      refine c_seq ?_
      refine a_start (ds := []) MO rfl ?_
      refine zb2 0 rfl rfl rfl (by kernel_rfl) (fun _ _ _ h => h) (fun w h => h) (q_ldb Y117 rfl (fun w h => h.zaj (i := 1) rfl) rfl) ?_
      refine zb2 1 rfl rfl rfl (by kernel_rfl) (fun _ _ _ h => h) (fun w h => h) (q_ldb Y102 rfl (fun w h => h.zaj (i := 3) rfl) rfl) ?_
      refine za7 2 rfl rfl rfl (by kernel_rfl) (fun _ _ _ h => h) (q_nil rfl) ?_
      refine za7 3 rfl rfl rfl (by kernel_rfl) (fun _ _ _ h => h) (q_f F25_0 rfl) ?_
      refine zb2 4 rfl rfl rfl (by kernel_rfl) (fun _ _ _ h => h) (fun w h => h) (q_ldb Y3 rfl (fun w h => B0'.now Z3 h) rfl) ?_
      refine za7 5 rfl rfl rfl (by kernel_rfl) (fun _ _ _ h => h) (za2 rfl) ?_
      refine za7 6 rfl rfl rfl (by kernel_rfl) (fun _ _ _ h => h) (zb7 rfl rfl) ?_
      refine a_fact (p := Sh A6 l4.length s.length) (fun w h => f_sh (dk := Kd.bool) h (fun w h => h.zaw (i := 2) rfl)) (fun hq28 => ?_)
      refine za7 7 rfl rfl rfl (by kernel_rfl) (fun _ _ _ h => h) (q_ix Try.underlying117 Z4 rfl rfl hq28 hg29) ?_
      refine zb2 8 rfl rfl rfl (by kernel_rfl) (fun _ _ _ h => h) (fun w h => h) (q_lde (off := 0) Y4 rfl rfl (fun w h => h.zaw (i := 2) rfl) hg29 (fun _ _ h => h) rfl) ?_
      refine zan (by kernel_rfl) ?_
      refine za1 ?_
      refine zb0 _ rfl (fun hb31 => ?_) (fun hb31 => ?_)
      · skip
        have hg32 := gt_getD q0 (show x.1.2.f0 < (s.length : Int) by omega)
        have hs35 := st_ok q0 (show x.1.2.f0 < (s.length : Int) by omega)
        have hg37 := gt_getD (s := s.set x.1.2.f0.toNat true) q2 (by rw [List.length_set]; omega)
        have hs40 := st_ok (s := s.set x.1.2.f0.toNat true) q2 (by rw [List.length_set]; omega)
        refine a_startS (ds := []) [some 0, some 1, none, some 3] MO rfl ?_
        refine zb2 0 rfl rfl rfl (by kernel_rfl) (fun _ _ _ h => h) (fun w h => za3 [some 0, some 1, none, some 3] (by decide) w h rfl) (q_ldb Y117 rfl (fun w h => h.zaj (i := 1) rfl) rfl) ?_
        refine za7 1 rfl rfl rfl (by kernel_rfl) (fun _ _ _ h => h) (q_f F107_0 rfl) ?_
        refine zb2 2 rfl rfl rfl (by kernel_rfl) (fun _ _ _ h => h) (fun w h => za3 [some 0, some 1, none, some 3] (by decide) w h rfl) (q_ldb Y3 rfl (fun w h => h.zaj (i := 0) rfl) rfl) ?_
        refine zb2 3 rfl rfl rfl (by kernel_rfl) (fun _ _ _ h => h) (fun w h => za3 [some 0, some 1, none, some 3] (by decide) w h rfl) (q_ldb Y117 rfl (fun w h => h.zaj (i := 1) rfl) rfl) ?_
        refine za7 4 rfl rfl rfl (by kernel_rfl) (fun _ _ _ h => h) (q_f F107_1 rfl) ?_
        refine zb2 5 rfl rfl rfl (by kernel_rfl) (fun _ _ _ h => h) (fun w h => za3 [some 0, some 1, none, some 3] (by decide) w h rfl) (q_ldb Y3 rfl (fun w h => h.zaj (i := 0) rfl) rfl) ?_
        refine za7 6 rfl rfl rfl (by kernel_rfl) (fun _ _ _ h => h) (q_ix Try.underlying117 Z4 rfl rfl hq28 hg32) ?_
        refine a_one 7 rfl rfl (by kernel_rfl) rfl (e_set (i := 2) rfl rfl rfl Z4 hs35) (fun s w h => za3 [some 0, some 1, none, some 3] (by decide) w h rfl) (fun _ => ?_)
        refine a_fact (p := Sh A6 l4.length (s.set x.1.2.f0.toNat true).length) (fun w h => f_sh (dk := Kd.bool) h (fun w h => h.zaw (i := 2) rfl)) (fun hq36 => ?_)
        refine za7 8 rfl rfl rfl (by kernel_rfl) (fun _ _ _ h => h) (q_ix Try.underlying117 Z4 rfl rfl hq36 hg37) ?_
        refine a_one 9 rfl rfl (by kernel_rfl) rfl (e_set (i := 2) rfl rfl rfl Z4 hs40) (fun s w h => za3 [some 0, some 1, none, some 3] (by decide) w h rfl) (fun _ => ?_)
        refine zan (by kernel_rfl) ?_
        refine zas ?_
        intro w' hw'
        have ht := za6 [1, 2, 3] (by decide) rfl _ hw'
        have eb : impl_Plan_used.b a0_0 s x.1 = (s.set x.1.2.f0.toNat true).set x.1.2.f1.toNat true := if_pos hb31
        show Fr w0 W P3 _ w'
        rw [eb]
        exact ht
      · skip
        refine zat ?_
        refine zas ?_
        intro w' hw'
        have ht := za6 [1, 2, 3] (by decide) rfl _ hw'
        have eb : impl_Plan_used.b a0_0 s x.1 = s := if_neg (by rw [hb31]; simp)
        show Fr w0 W P3 _ w'
        rw [eb]
        exact ht
    · -- behind the range
      intro D xs W hD hS hFW hdf
      have hmap : xs.foldl (fun s x => impl_Plan_used.b a0_0 s x.1) l11 = r_1 := by
        rw [← e0_, ← hS, List.foldl_map]
      rw [hmap] at hFW
      obtain ⟨P4, hF4, hst4, _, hc4, hback4⟩ := ((show Fr w0 w P2 ([box g9 117 #[.slice A6 l4.length c7], row Kd.bool 4 (.slice A6 l4.length c7) r_1, box g1 102 #[.pointer (some ⟨g0, 0, none⟩)]] ++ []) W from hFW)).here hZ2
      have hmk : Stable W P4 (fun w => w.heap[D]? = some (.deferred (some []))) := fun W' hk => by
        show W'.heap[D]? = _
        rw [hk.kept.2 D (Array.getElem?_eq_some_iff.1 hdf).1 (fun hp => by
          obtain ⟨cs, q, hcc⟩ := hc4 D hp
          rw [hdf] at hcc
          cases hcc)]
        exact hdf
      have hrl : l4.length = r_1.length := by
        rw [← hmap, impl_Plan_used.flen]
        omega
      have hws : ws.heap.size ≤ D := Nat.le_trans (hw.keptB Z).kept.1 hD
      refine (show X ⟨49, [{ target := .collected D, args := #[] }], none⟩ w0 W P4 .normal _ _ _ from ?_) W hF4
      refine zas ?_
      refine za1 ?_
      refine c_seq ?_
      refine za0 ?_
      refine o_q rfl rfl (q_ldb Y117 rfl (fun w h => h.zaj (i := 0) rfl) rfl) ?_
      refine o_q rfl rfl (q_asg rfl) ?_
      refine o_end ?_
      refine za1 ?_
      refine c_ret ?_
      refine x_mark (D := D) Z hws hmk hF4.bel (fun Ts w' h => hback _ _ (hback4 _ _ h)) ?_
      exact x_r1 (A6, c7) Try.results117 (zal (v := .slice A6 l4.length c7) rfl) (by (try rw [hrl]); first | done | rfl) (f_pickE (L1 := [box g9 117 #[.slice A6 l4.length c7], row Kd.bool 4 (.slice A6 l4.length c7) r_1, box g1 102 #[.pointer (some ⟨g0, 0, none⟩)]]) rfl [1] (by decide) rfl (by (try rw [hrl]); first | done | rfl))
  · skip
    clear hl19
    have hr16 := hJ_.1; have hk22 := hJ_.2.1; have h := hJ_.2.2; clear hJ_
    replace h : impl_Plan_used.l0 (y13 :: ys14) l11 i12 = some o20 := h
    rw [impl_Plan_used.l0] at h
    refine c_seq ?_
    refine za0 ?_
    refine o_q rfl rfl (q_lss rfl rfl) ?_
    refine o_end ?_
    refine za1 ?_
    refine c_seq ?_
    refine c_true (congrArg Value.bool hr16.lt) ?_
    refine zat ?_
    refine za1 ?_
    refine c_seq ?_
    refine zaq ?_
    refine c_seq ?_
    refine za0 ?_
    refine zb4 (p := Sh A0_2 l0_2.length l0_2.length) (fun w h => f_sh (dk := (Kd.int .i64)) h (fun w h => R0_2.now Z h)) (fun hq43 => ?_)
    refine o_q rfl rfl (q_ix Try.underlying23 Z3 rfl rfl hq43 hr16.get) ?_
    refine o_q rfl rfl (q_lde (off := 0) Y3 rfl rfl (fun w h => R0_2.now Z h) hr16.get (fun _ _ h => h) rfl) ?_
    refine o_q rfl rfl (q_asg rfl) ?_
    refine o_end ?_
    refine za1 ?_
    refine za0 ?_
    refine o_q rfl rfl (q_ldb Y117 rfl (fun w h => h.zaj (i := 0) rfl) rfl) ?_
    refine o_q rfl rfl (za2 rfl) ?_
    refine zb4 (p := Sh A6 l4.length l11.length) (fun w h => f_sh (dk := Kd.bool) h (fun w h => h.zaw (i := 1) rfl)) (fun hq44 => ?_)
    refine zab h (fun y46 hg45 h => ?_) rfl
    refine o_q rfl rfl (q_ix Try.underlying117 Z4 rfl rfl hq44 hg45) ?_
    refine zab h (fun l47 hs48 h => ?_) rfl
    refine o_e rfl (e_set (i := 1) rfl rfl rfl Z4 hs48) (fun _ => ?_)
    refine o_end ?_
    refine zas ?_
    refine za1 ?_
    refine za0 ?_
    refine o_q rfl rfl (q_up rfl rfl (hr16.up hm17)) ?_
    refine o_q rfl rfl (za2 rfl) ?_
    refine o_end ?_
    refine zar ys14.length (ys14, l47, i12 + 1) (by rw [← hk22]; exact Nat.lt_succ_self _) ⟨hr16.step, rfl, h⟩ ⟨rfl, trivial⟩ (fun w h => za6 [0, 1, 2] (by decide) rfl w h) ?_
    repeat (first | exact za9 _ _ | refine zae rfl ?_ | refine zaa rfl ?_ | refine zaf rfl ?_)

/-! ### loop.example/g01098/impl.firsts: function 106 -/
def impl_firsts.l0 : Nat → (List Int) → Int → Option (List Int)
  | 0, l4, i7 => some l4
  | k10 + 1, l4, i7 => (ap l4 ([i7] : List Int)).bind fun l22 => impl_firsts.l0 k10 l22 (i7 + 1)
def impl_firsts.f (a0 : Int) : Option (List Int) := (bd a0).bind fun _ => (impl_firsts.l0 ((a0).toNat) ([] : List Int) 0).bind fun l4 => some l4
set_option maxHeartbeats 600000 in
set_option maxRecDepth 100000 in
theorem impl_firsts.calls {w0 ws : World} {P0 : Nat → Prop} (a0 : Int) (Z : Below w0.heap.size w0 ws) (hF : Fr w0 ws P0 [] ws)  (r_1 : List Int) (h : impl_firsts.f a0 = some r_1) :
    Calls Try.prog 106 #[.int .i64 a0] ws (Post1 w0 ws P0 (fun ((q_2, q_3) : (Option Addr) × Nat) => .slice q_2 r_1.length q_3) (fun ((q_2, q_3) : (Option Addr) × Nat) => [row (Kd.int .i64) 3 (.slice q_2 r_1.length q_3) r_1])) := by
  unfold impl_firsts.f at h
  refine enter Try.func106 rfl Try.ntmps106 rfl hF ?_
  refine c_seq ?_
  refine za0 ?_
  refine o_q rfl rfl (q_asg rfl) ?_
  refine o_end ?_
  refine za1 ?_
  refine c_seq ?_
  refine za0 ?_
  refine o_e rfl (e_lit0 (Kd.int .i64) Try.underlying23 I3) (cur2 (fun A1 c2 => ?_))
  refine o_q rfl rfl (q_asg rfl) ?_
  refine o_end ?_
  refine za1 ?_
  refine c_seq ?_
  refine c_seq ?_
  refine za0 ?_
  refine o_q rfl rfl (za2 rfl) ?_
  refine o_q rfl rfl (za2 rfl) ?_
  refine o_end ?_
  refine za1 ?_
  refine zaq ?_
  refine zab h (fun _ hbd16 h => ?_) rfl
  refine zab h (fun o15 hl14 hR13 => ?_) rfl
  clear h
  have hm12 : a0 ≤ 9223372036854775807 := bd_le hbd16
  refine zb3 (σ := (List Int) × Int × (Option Addr) × Nat) (fun k10 ((l4, i7, A5, c6) : (List Int) × Int × (Option Addr) × Nat) => Cn a0 i7 k10 ∧ impl_firsts.l0 k10 l4 i7 = some o15) [3, 4, 7, 8, 9, 10, 11, 12, 13, 14] (fun ((l4, i7, A5, c6) : (List Int) × Int × (Option Addr) × Nat) => [(3, .slice A5 l4.length c6), (7, .int .i64 i7)]) (fun ((l4, i7, A5, c6) : (List Int) × Int × (Option Addr) × Nat) => [row (Kd.int .i64) 3 (.slice A5 l4.length c6) l4]) (a0).toNat (([] : List Int), 0, A1, c2) ⟨Cn.start hm12, hl14⟩ ⟨rfl, rfl, trivial⟩ (fun w h => h) ?_
  refine natC (cur4 (fun l4 i7 A5 c6 => fun U17 hJ_ => ?_)) (fun k10 => (cur4 (fun l4 i7 A5 c6 => fun U17 hJ_ => ?_)))
  · skip
    clear hl14
    have hr11 := hJ_.1; have h := hJ_.2; clear hJ_
    replace h : impl_firsts.l0 0 l4 i7 = some o15 := h
    rw [impl_firsts.l0] at h
    refine c_seq ?_
    refine za0 ?_
    refine o_q rfl rfl (q_lss rfl rfl) ?_
    refine o_end ?_
    refine za1 ?_
    refine c_seq ?_
    refine c_false (congrArg Value.bool hr11.ge) ?_
    refine c_exit ?_
    refine zac ?_
    refine zac ?_
    have e_ := Option.some.inj h; replace h := hR13; rw [← e_] at h; clear e_
    refine x_hit ?_
    refine za1 ?_
    refine c_seq ?_
    refine za0 ?_
    refine o_q rfl rfl (za2 rfl) ?_
    refine o_q rfl rfl (q_asg rfl) ?_
    refine o_end ?_
    refine za1 ?_
    refine c_ret ?_
    have e0_ := Option.some.inj h; clear h
    subst e0_
    exact x_r1 (A5, c6) Try.results106 (zal rfl) rfl (fun w h => za6 [0] (by decide) rfl w h)
  · skip
    clear hl14
    have hr11 := hJ_.1; have h := hJ_.2; clear hJ_
    replace h : impl_firsts.l0 (k10 + 1) l4 i7 = some o15 := h
    rw [impl_firsts.l0] at h
    refine c_seq ?_
    refine za0 ?_
    refine o_q rfl rfl (q_lss rfl rfl) ?_
    refine o_end ?_
    refine za1 ?_
    refine c_seq ?_
    refine c_true (congrArg Value.bool hr11.lt) ?_
    refine zat ?_
    refine za1 ?_
    refine c_seq ?_
    refine zaq ?_
    refine c_seq ?_
    refine za0 ?_
    refine o_q rfl rfl (za2 rfl) ?_
    refine o_q rfl rfl (q_asg rfl) ?_
    refine o_end ?_
    refine za1 ?_
    refine za0 ?_
    refine o_q rfl rfl (za2 rfl) ?_
    refine o_q rfl rfl (za2 rfl) ?_
    refine o_e rfl (e_lit (vs := [(0, .int .i64 i7)]) (cs := [.int .i64 i7]) (Kd.int .i64) ([i7] : List Int) Try.underlying23 I3 (by decide) rfl (by decide) rfl rfl (fun _ _ => Kd.zah _)) (cur2 (fun A19 c20 => ?_))
    refine zab h (fun l22 ha23 h => ?_) rfl
    refine o_e rfl (e_app (i := 1) (j := 0) Try.underlying23 I3 rfl (by decide) (by decide) rfl rfl rfl rfl rfl ha23) (cur2 (fun A24 c25 => ?_))
    refine o_q rfl rfl (q_asg rfl) ?_
    refine o_end ?_
    refine zas ?_
    refine za1 ?_
    refine za0 ?_
    refine o_q rfl rfl (q_up rfl rfl hr11.up) ?_
    refine o_q rfl rfl (za2 rfl) ?_
    refine o_end ?_
    refine zar k10 (l22, i7 + 1, A24, c25) (Nat.lt_succ_self _) ⟨hr11.step, h⟩ ⟨rfl, rfl, trivial⟩ (fun w h => za6 [1] (by decide) rfl w h) ?_
    repeat (first | exact za9 _ _ | refine zae rfl ?_ | refine zaa rfl ?_ | refine zaf rfl ?_)

/-! ### loop.example/g01098/impl.renamed: function 118 -/
def impl_renamed.l0 (l1 : List Int) : (List Int) → (List Int) → Int → Option (List Int)
  | [], l5, i8 => some l5
  | y9 :: ys10, l5, i8 => (gt l1 y9).bind fun y22 => (ap l5 ([y22] : List Int)).bind fun l26 => impl_renamed.l0 l1 ys10 l26 (i8 + 1)
def impl_renamed.f (l0 : List Int) (l1 : List Int) : Option (List Int) := (impl_renamed.l0 l1 l0 ([] : List Int) 0).bind fun l5 => some l5
set_option maxHeartbeats 600000 in
set_option maxRecDepth 100000 in
theorem impl_renamed.calls {w0 ws : World} {P0 : Nat → Prop} (A0 : Option Addr) (c0 : Nat) (n0 : Nat) (l0 : List Int) (A1 : Option Addr) (c1 : Nat) (n1 : Nat) (l1 : List Int) (Z : Below w0.heap.size w0 ws) (hF : Fr w0 ws P0 [] ws) (R0 : Stable ws P0 (fun w => Kd.C (Kd.int .i64) w A0 n0 l0)) (hc0 : n0 ≤ c0) (R1 : Stable ws P0 (fun w => Kd.C (Kd.int .i64) w A1 n1 l1)) (hc1 : n1 ≤ c1) (r_1 : List Int) (h : impl_renamed.f l0 l1 = some r_1) :
    Calls Try.prog 118 #[.slice A0 n0 c0, .slice A1 n1 c1] ws (Post1 w0 ws P0 (fun ((q_2, q_3) : (Option Addr) × Nat) => .slice q_2 r_1.length q_3) (fun ((q_2, q_3) : (Option Addr) × Nat) => [row (Kd.int .i64) 3 (.slice q_2 r_1.length q_3) r_1])) := by
  unfold impl_renamed.f at h
  obtain rfl := (R0 ws (KeptB.refl _ _)).1
  obtain rfl := (R1 ws (KeptB.refl _ _)).1
  refine enter Try.func118 rfl Try.ntmps118 rfl hF ?_
  refine c_seq ?_
  refine za0 ?_
  refine o_q rfl rfl (q_asg rfl) ?_
  refine o_end ?_
  refine za1 ?_
  refine c_seq ?_
  refine za0 ?_
  refine o_e rfl (e_lit0 (Kd.int .i64) Try.underlying23 I3) (cur2 (fun A2 c3 => ?_))
  refine o_q rfl rfl (q_asg rfl) ?_
  refine o_end ?_
  refine za1 ?_
  refine c_seq ?_
  refine c_seq ?_
  refine za0 ?_
  refine o_q rfl rfl (za2 rfl) ?_
  refine o_q rfl rfl (q_len Try.underlying23 rfl) ?_
  refine o_q rfl rfl (za2 rfl) ?_
  refine o_end ?_
  refine za1 ?_
  refine zaq ?_
  refine zab h (fun o16 hl15 hR14 => ?_) rfl
  clear h
  refine c_fact (p := l0.length ≤ 9223372036854775807) (fun w h => (R0.now Z h).2.1) (fun hm13 => ?_)
  refine zb3 (σ := (List Int) × (List Int) × Int × (Option Addr) × Nat) (fun k11 ((ys10, l5, i8, A6, c7) : (List Int) × (List Int) × Int × (Option Addr) × Nat) => Rg l0 i8 ys10 ∧ ys10.length = k11 ∧ impl_renamed.l0 l1 ys10 l5 i8 = some o16) [5, 7, 11, 12, 13, 14, 15, 16, 17, 18, 19, 20, 21, 22] (fun ((ys10, l5, i8, A6, c7) : (List Int) × (List Int) × Int × (Option Addr) × Nat) => [(5, .slice A6 l5.length c7), (11, .int .i64 i8)]) (fun ((ys10, l5, i8, A6, c7) : (List Int) × (List Int) × Int × (Option Addr) × Nat) => [row (Kd.int .i64) 3 (.slice A6 l5.length c7) l5]) l0.length (l0, ([] : List Int), 0, A2, c3) ⟨Rg.start _, rfl, hl15⟩ ⟨rfl, rfl, trivial⟩ (fun w h => h) ?_
  refine fun k11 => cur5 (listC (fun l5 i8 A6 c7 U17 hJ_ => ?_) (fun y9 ys10 l5 i8 A6 c7 U17 hJ_ => ?_))
  · skip
    clear hl15
    have hr12 := hJ_.1; have hk18 := hJ_.2.1; have h := hJ_.2.2; clear hJ_
    replace h : impl_renamed.l0 l1 [] l5 i8 = some o16 := h
    rw [impl_renamed.l0] at h
    refine c_seq ?_
    refine za0 ?_
    refine o_q rfl rfl (q_lss rfl rfl) ?_
    refine o_end ?_
    refine za1 ?_
    refine c_seq ?_
    refine c_false (congrArg Value.bool hr12.ge) ?_
    refine c_exit ?_
    refine zac ?_
    refine zac ?_
    have e_ := Option.some.inj h; replace h := hR14; rw [← e_] at h; clear e_
    refine x_hit ?_
    refine za1 ?_
    refine c_seq ?_
    refine za0 ?_
    refine o_q rfl rfl (za2 rfl) ?_
    refine o_q rfl rfl (q_asg rfl) ?_
    refine o_end ?_
    refine za1 ?_
    refine c_ret ?_
    have e0_ := Option.some.inj h; clear h
    subst e0_
    exact x_r1 (A6, c7) Try.results118 (zal rfl) rfl (fun w h => za6 [0] (by decide) rfl w h)
  · skip
    clear hl15
    have hr12 := hJ_.1; have hk18 := hJ_.2.1; have h := hJ_.2.2; clear hJ_
    replace h : impl_renamed.l0 l1 (y9 :: ys10) l5 i8 = some o16 := h
    rw [impl_renamed.l0] at h
    refine c_seq ?_
    refine za0 ?_
    refine o_q rfl rfl (q_lss rfl rfl) ?_
    refine o_end ?_
    refine za1 ?_
    refine c_seq ?_
    refine c_true (congrArg Value.bool hr12.lt) ?_
    refine zat ?_
    refine za1 ?_
    refine c_seq ?_
    refine zaq ?_
    refine c_seq ?_
    refine za0 ?_
    refine zb4 (p := Sh A0 l0.length l0.length) (fun w h => f_sh (dk := (Kd.int .i64)) h (fun w h => R0.now Z h)) (fun hq19 => ?_)
    refine o_q rfl rfl (q_ix Try.underlying23 Z3 rfl rfl hq19 hr12.get) ?_
    refine o_q rfl rfl (q_lde (off := 0) Y3 rfl rfl (fun w h => R0.now Z h) hr12.get (fun _ _ h => h) rfl) ?_
    refine o_q rfl rfl (q_asg rfl) ?_
    refine o_end ?_
    refine za1 ?_
    refine za0 ?_
    refine o_q rfl rfl (za2 rfl) ?_
    refine o_q rfl rfl (za2 rfl) ?_
    refine o_q rfl rfl (za2 rfl) ?_
    refine zb4 (p := Sh A1 l1.length l1.length) (fun w h => f_sh (dk := (Kd.int .i64)) h (fun w h => R1.now Z h)) (fun hq20 => ?_)
    refine zab h (fun y22 hg21 h => ?_) rfl
    refine o_q rfl rfl (q_ix Try.underlying23 Z3 rfl rfl hq20 hg21) ?_
    refine o_q rfl rfl (q_lde (off := 0) Y3 rfl rfl (fun w h => R1.now Z h) hg21 (fun _ _ h => h) rfl) ?_
    refine o_e rfl (e_lit (vs := [(0, .int .i64 y22)]) (cs := [.int .i64 y22]) (Kd.int .i64) ([y22] : List Int) Try.underlying23 I3 (by decide) rfl (by decide) rfl rfl (fun _ _ => Kd.zah _)) (cur2 (fun A23 c24 => ?_))
    refine zab h (fun l26 ha27 h => ?_) rfl
    refine o_e rfl (e_app (i := 1) (j := 0) Try.underlying23 I3 rfl (by decide) (by decide) rfl rfl rfl rfl rfl ha27) (cur2 (fun A28 c29 => ?_))
    refine o_q rfl rfl (q_asg rfl) ?_
    refine o_end ?_
    refine zas ?_
    refine za1 ?_
    refine za0 ?_
    refine o_q rfl rfl (q_up rfl rfl (hr12.up hm13)) ?_
    refine o_q rfl rfl (za2 rfl) ?_
    refine o_end ?_
    refine zar ys10.length (ys10, l26, i8 + 1, A28, c29) (by rw [← hk18]; exact Nat.lt_succ_self _) ⟨hr12.step, rfl, h⟩ ⟨rfl, rfl, trivial⟩ (fun w h => za6 [1] (by decide) rfl w h) ?_
    repeat (first | exact za9 _ _ | refine zae rfl ?_ | refine zaa rfl ?_ | refine zaf rfl ?_)

/-! ### (*loop.example/g01098/impl.Plan).trimmed: function 62 -/
def impl_Plan_trimmed.l0 (a0_0 : Int) (l1024 : List Bool) : (List SStep) → (List Int) → (List SStep) → Int → Option ((List Int) × (List SStep))
  | [], l2058, l2061, i2064 => some (l2058, l2061)
  | y2065 :: ys2066, l2058, l2061, i2064 => (impl_Plan_many.f a0_0 l2061 []).bind fun _ => (ap l2058 ([w64 (a0_0 + (l2061.length : Int))] : List Int)).bind fun l2086 => (gt l1024 (w64 (a0_0 + i2064))).bind fun y2092 => if y2092 = true then ((gt l2086 y2065.f0).bind fun y2397 => (gt l2086 y2065.f1).bind fun y2696 => (impl_step.f y2397 y2696).bind fun _ => (ap l2061 ([(⟨mn y2397 y2696, mx y2397 y2696⟩ : SStep)] : List SStep)).bind fun l2935 => impl_Plan_trimmed.l0 a0_0 l1024 ys2066 l2086 l2935 (i2064 + 1)) else (impl_Plan_trimmed.l0 a0_0 l1024 ys2066 l2086 l2061 (i2064 + 1))
def impl_Plan_trimmed.f (a0_0 : Int) (l0_1 : List SStep) (l0_2 : List Int) : Option ((List SStep) × (List Int)) := ((impl_Plan_used.f a0_0 l0_1 l0_2).bind fun l1098 => (impl_firsts.f a0_0).bind fun l1698 => some (l1098, l1698)).bind fun (l1024, l1028) => (impl_Plan_trimmed.l0 a0_0 l1024 l0_1 l1028 ([] : List SStep) 0).bind fun (l2058, l2061) => (impl_renamed.f l0_2 l2058).bind fun l2076 => some (l2061, l2076)
set_option maxHeartbeats 600000 in
set_option maxRecDepth 100000 in
theorem impl_Plan_trimmed.calls {w0 ws : World} {P0 : Nat → Prop} (g0 : Nat) (a0_0 : Int) (A0_1 : Option Addr) (c0_1 : Nat) (n0_1 : Nat) (l0_1 : List SStep) (A0_2 : Option Addr) (c0_2 : Nat) (n0_2 : Nat) (l0_2 : List Int) (Z : Below w0.heap.size w0 ws) (hF : Fr w0 ws P0 [] ws) (R0_1 : Stable ws P0 (fun w => Kd.C kStep w A0_1 n0_1 l0_1)) (hc0_1 : n0_1 ≤ c0_1) (R0_2 : Stable ws P0 (fun w => Kd.C (Kd.int .i64) w A0_2 n0_2 l0_2)) (hc0_2 : n0_2 ≤ c0_2) (B0 : Stable ws P0 (fun w => w.heap[g0]? = some (.cells #[.int .i64 a0_0, .slice A0_1 n0_1 c0_1, .slice A0_2 n0_2 c0_2] 25 (0, 0)))) (r_1 : List SStep) (r_4 : List Int) (h : impl_Plan_trimmed.f a0_0 l0_1 l0_2 = some (r_1, r_4)) :
    Calls Try.prog 62 #[.pointer (some ⟨g0, 0, none⟩)] ws (Post1 w0 ws P0 (fun ((q_2, q_3, q_5, q_6) : (Option Addr) × Nat × (Option Addr) × Nat) => .agg #[.int .i64 a0_0, .slice q_2 r_1.length q_3, .slice q_5 r_4.length q_6]) (fun ((q_2, q_3, q_5, q_6) : (Option Addr) × Nat × (Option Addr) × Nat) => [row kStep 107 (.slice q_2 r_1.length q_3) r_1, row (Kd.int .i64) 3 (.slice q_5 r_4.length q_6) r_4])) := by
  unfold impl_Plan_trimmed.f at h
  obtain rfl := (R0_1 ws (KeptB.refl _ _)).1
  obtain rfl := (R0_2 ws (KeptB.refl _ _)).1
  refine enter Try.func62 rfl Try.ntmps62 rfl hF ?_
  refine c_seq ?_
  refine za0 ?_
  refine o_e rfl (zam V25 rfl) (fun g1 => ?_)
  refine o_end ?_
  refine za1 ?_
  refine zab h (fun o1031 hl1032 hR1033 => ?_) rfl
  clear h
  refine c_cutJ (σ := (List Bool) × (List Int) × (Option Addr) × Nat × Nat × (Option Addr) × Nat) (fun (l1024, l1028, A1025, c1026, g1027, A1029, c1030) => some (l1024, l1028) = some o1031) [3, 4, 5, 8, 9, 10, 11, 12, 13, 14, 15, 16, 17, 18, 19] (fun (l1024, l1028, A1025, c1026, g1027, A1029, c1030) => [(3, .slice A1025 l1024.length c1026), (4, .pointer (some ⟨g1027, 0, none⟩)), (5, .slice A1029 l1028.length c1030)]) (fun (l1024, l1028, A1025, c1026, g1027, A1029, c1030) => [box g1 25 #[.int .i64 0, .slice none 0 0, .slice none 0 0], row Kd.bool 4 (.slice A1025 l1024.length c1026) l1024, box g1027 25 #[.int .i64 a0_0, .slice none 0 0, .slice none 0 0], row (Kd.int .i64) 3 (.slice A1029 l1028.length c1030) l1028]) ?_ ?_
  · skip
    have h := hl1032; clear hl1032
    clear hR1033
    refine zab h (fun l1098 hx1097 h => ?_) rfl
    refine zab h (fun l1698 hx1697 h => ?_) rfl
    refine a_start (ds := []) MO rfl ?_
    refine za7 0 rfl rfl rfl (by kernel_rfl) (fun _ _ _ h => h) (za2 rfl) ?_
    refine za7 2 rfl rfl rfl (by kernel_rfl) (fun _ _ _ h => h) (za2 rfl) ?_
    refine za7 3 rfl rfl rfl (by kernel_rfl) (fun _ _ _ h => h) (q_nil rfl) ?_
    refine za7 4 rfl rfl rfl (by kernel_rfl) (fun _ _ _ h => h) (q_f F25_0 rfl) ?_
    refine zb2 5 rfl rfl rfl (by kernel_rfl) (fun _ _ _ h => h) (fun w h => h) (q_ldb Y3 rfl (fun w h => B0.now Z h) rfl) ?_
    refine za7 6 rfl rfl rfl (by kernel_rfl) (fun _ _ _ h => h) (q_build (vs := [(0, .int .i64 a0_0)]) (cs := [.int .i64 a0_0, .slice none 0 0, .slice none 0 0]) rfl rfl) ?_
    refine za7 7 rfl rfl rfl (by kernel_rfl) (fun _ _ _ h => h) (za2 rfl) ?_
    refine za7 8 rfl rfl rfl (by kernel_rfl) (fun _ _ _ h => h) (q_nil rfl) ?_
    refine za7 9 rfl rfl rfl (by kernel_rfl) (fun _ _ _ h => h) (q_f F25_0 rfl) ?_
    refine zb2 10 rfl rfl rfl (by kernel_rfl) (fun _ _ _ h => h) (fun w h => h) (q_ldb Y3 rfl (fun w h => B0.now Z h) rfl) ?_
    refine a_two 1 12 rfl rfl rfl rfl (by kernel_rfl) rfl rfl (za8 0 Z Try.func117 N117 rfl rfl rfl (fun w P1 hF hB hS hT => impl_Plan_used.calls g0 a0_0 A0_1 c0_1 l0_1.length l0_1 A0_2 c0_2 l0_2.length l0_2 hB hF (hS _ R0_1) hc0_1 (hS _ R0_2) hc0_2 (hS _ B0) _ hx1097)) (fun s w h => za3 [some 1] (by decide) w h rfl) (zam V25 rfl) (fun s w h => za3 [some 1] (by decide) w h rfl) (cur2 (fun A1099 c1100 => ?_)) (fun g1757 => ?_)
    · skip
      refine a_two 11 12 rfl rfl rfl rfl (by kernel_rfl) rfl rfl (za8 0 Z Try.func106 N106 rfl rfl rfl (fun w P1 hF hB hS hT => impl_firsts.calls a0_0 hB hF _ hx1697)) (fun s w h => za3 [some 2] (by decide) w h rfl) (zam V25 rfl) (fun s w h => za3 [some 2] (by decide) w h rfl) (cur2 (fun A1699 c1700 => ?_)) (fun g1757 => ?_)
      · skip
        refine a_one 12 rfl rfl (by kernel_rfl) rfl (zam V25 rfl) (fun s w h => za3 [some 3] (by decide) w h rfl) (fun g1757 => ?_)
        refine za7 13 rfl rfl rfl (by kernel_rfl) (fun _ _ _ h => h) (q_asg rfl) ?_
        refine a_one 14 rfl rfl (by kernel_rfl) rfl (zav (i := 0) rfl rfl rfl Z25 rfl rfl) (fun s w h => za3 [some 3] (by decide) w h rfl) (fun _ => ?_)
        refine za7 15 rfl rfl rfl (by kernel_rfl) (fun _ _ _ h => h) (q_asg rfl) ?_
        refine zan (by kernel_rfl) ?_
        refine zao (l1098, l1698, A1099, c1100, g1757, A1699, c1700) h ⟨rfl, rfl, rfl, trivial⟩ (fun w h => za6 [3, 2, 0, 1] (by decide) rfl w h) ?_
        repeat (first | exact za9 _ _ | refine zae rfl ?_ | refine zaa rfl ?_ | refine zaf rfl ?_)
      · skip
        refine a_one 11 rfl rfl (by kernel_rfl) rfl (za8 0 Z Try.func106 N106 rfl rfl rfl (fun w P1 hF hB hS hT => impl_firsts.calls a0_0 hB hF _ hx1697)) (fun s w h => za3 [some 3] (by decide) w h rfl) (cur2 (fun A1699 c1700 => ?_))
        refine za7 13 rfl rfl rfl (by kernel_rfl) (fun _ _ _ h => h) (q_asg rfl) ?_
        refine a_one 14 rfl rfl (by kernel_rfl) rfl (zav (i := 1) rfl rfl rfl Z25 rfl rfl) (fun s w h => za3 [some 3] (by decide) w h rfl) (fun _ => ?_)
        refine za7 15 rfl rfl rfl (by kernel_rfl) (fun _ _ _ h => h) (q_asg rfl) ?_
        refine zan (by kernel_rfl) ?_
        refine zao (l1098, l1698, A1099, c1100, g1757, A1699, c1700) h ⟨rfl, rfl, rfl, trivial⟩ (fun w h => za6 [3, 2, 1, 0] (by decide) rfl w h) ?_
        repeat (first | exact za9 _ _ | refine zae rfl ?_ | refine zaa rfl ?_ | refine zaf rfl ?_)
    · skip
      refine a_one 1 rfl rfl (by kernel_rfl) rfl (za8 0 Z Try.func117 N117 rfl rfl rfl (fun w P1 hF hB hS hT => impl_Plan_used.calls g0 a0_0 A0_1 c0_1 l0_1.length l0_1 A0_2 c0_2 l0_2.length l0_2 hB hF (hS _ R0_1) hc0_1 (hS _ R0_2) hc0_2 (hS _ B0) _ hx1097)) (fun s w h => za3 [some 2] (by decide) w h rfl) (cur2 (fun A1099 c1100 => ?_))
      refine a_one 11 rfl rfl (by kernel_rfl) rfl (za8 0 Z Try.func106 N106 rfl rfl rfl (fun w P1 hF hB hS hT => impl_firsts.calls a0_0 hB hF _ hx1697)) (fun s w h => za3 [some 3] (by decide) w h rfl) (cur2 (fun A1699 c1700 => ?_))
      refine za7 13 rfl rfl rfl (by kernel_rfl) (fun _ _ _ h => h) (q_asg rfl) ?_
      refine a_one 14 rfl rfl (by kernel_rfl) rfl (zav (i := 2) rfl rfl rfl Z25 rfl rfl) (fun s w h => za3 [some 3] (by decide) w h rfl) (fun _ => ?_)
      refine za7 15 rfl rfl rfl (by kernel_rfl) (fun _ _ _ h => h) (q_asg rfl) ?_
      refine zan (by kernel_rfl) ?_
      refine zao (l1098, l1698, A1099, c1100, g1757, A1699, c1700) h ⟨rfl, rfl, rfl, trivial⟩ (fun w h => za6 [3, 1, 2, 0] (by decide) rfl w h) ?_
      repeat (first | exact za9 _ _ | refine zae rfl ?_ | refine zaa rfl ?_ | refine zaf rfl ?_)
  · skip
    refine (cur7 (fun l1024 l1028 A1025 c1026 g1027 A1029 c1030 => fun U1034 hJ1035 => ?_))
    have e_ := Option.some.inj hJ1035; have h := hR1033; rw [← e_] at h; clear e_ hJ1035 hR1033 hl1032
    refine c_seq ?_
    refine c_seq ?_
    refine za0 ?_
    refine o_q rfl rfl (za2 rfl) ?_
    refine o_q rfl rfl (q_nil rfl) ?_
    refine o_q rfl rfl (q_f F25_1 rfl) ?_
    refine o_q rfl rfl (q_ldb Y22 rfl (fun w h => B0.now Z h) rfl) ?_
    refine o_q rfl rfl (q_len Try.underlying22 rfl) ?_
    refine o_q rfl rfl (za2 rfl) ?_
    refine o_end ?_
    refine za1 ?_
    refine zaq ?_
    refine c_nil kStep 107 ?_
    refine zab h (fun o2072 hl2071 hR2070 => ?_) rfl
    clear h
    refine c_fact (p := l0_1.length ≤ 9223372036854775807) (fun w h => (R0_1.now Z h).2.1) (fun hm2069 => ?_)
    refine zb3 (σ := (List SStep) × (List Int) × (List SStep) × Int × (Option Addr) × Nat × (Option Addr) × Nat) (fun k2067 ((ys2066, l2058, l2061, i2064, A2059, c2060, A2062, c2063) : (List SStep) × (List Int) × (List SStep) × Int × (Option Addr) × Nat × (Option Addr) × Nat) => Rg l0_1 i2064 ys2066 ∧ ys2066.length = k2067 ∧ impl_Plan_trimmed.l0 a0_0 l1024 ys2066 l2058 l2061 i2064 = some o2072) [5, 6, 7, 25, 26, 27, 28, 29, 30, 31, 32, 33, 34, 35, 36, 37, 38, 39, 40, 41, 42, 43, 44, 45, 46, 47, 48, 49, 50, 51, 52, 53, 54, 55, 56, 57, 58, 59] (fun ((ys2066, l2058, l2061, i2064, A2059, c2060, A2062, c2063) : (List SStep) × (List Int) × (List SStep) × Int × (Option Addr) × Nat × (Option Addr) × Nat) => [(5, .slice A2059 l2058.length c2060), (25, .int .i64 i2064)]) (fun ((ys2066, l2058, l2061, i2064, A2059, c2060, A2062, c2063) : (List SStep) × (List Int) × (List SStep) × Int × (Option Addr) × Nat × (Option Addr) × Nat) => [row kStep 107 (.slice A2062 l2061.length c2063) l2061, box g1 25 #[.int .i64 0, .slice none 0 0, .slice none 0 0], row Kd.bool 4 (.slice A1025 l1024.length c1026) l1024, box g1027 25 #[.int .i64 a0_0, .slice A2062 l2061.length c2063, .slice none 0 0], row (Kd.int .i64) 3 (.slice A2059 l2058.length c2060) l2058]) l0_1.length (l0_1, l1028, ([] : List SStep), 0, A1029, c1030, none, 0) ⟨Rg.start _, rfl, hl2071⟩ ⟨rfl, rfl, trivial⟩ (fun w h => h) ?_
    refine fun k2067 => cur8 (listC (fun l2058 l2061 i2064 A2059 c2060 A2062 c2063 U2073 hJ_ => ?_) (fun y2065 ys2066 l2058 l2061 i2064 A2059 c2060 A2062 c2063 U2073 hJ_ => ?_))
    · skip
      clear hl2071
      have hr2068 := hJ_.1; have hk2074 := hJ_.2.1; have h := hJ_.2.2; clear hJ_
      replace h : impl_Plan_trimmed.l0 a0_0 l1024 [] l2058 l2061 i2064 = some o2072 := h
      rw [impl_Plan_trimmed.l0] at h
      refine c_seq ?_
      refine za0 ?_
      refine o_q rfl rfl (q_lss rfl rfl) ?_
      refine o_end ?_
      refine za1 ?_
      refine c_seq ?_
      refine c_false (congrArg Value.bool hr2068.ge) ?_
      refine c_exit ?_
      refine zac ?_
      refine zac ?_
      have e_ := Option.some.inj h; replace h := hR2070; rw [← e_] at h; clear e_
      refine x_hit ?_
      refine za1 ?_
      refine c_seq ?_
      refine za0 ?_
      refine o_q rfl rfl (za2 rfl) ?_
      refine o_q rfl rfl (q_nil rfl) ?_
      refine o_q rfl rfl (q_f F25_2 rfl) ?_
      refine o_q rfl rfl (q_ldb Y23 rfl (fun w h => B0.now Z h) rfl) ?_
      refine o_q rfl rfl (za2 rfl) ?_
      refine zab h (fun l2076 hx2075 h => ?_) rfl
      refine o_e rfl (za8 0 Z Try.func118 N118 rfl rfl rfl (fun w P1 hF hB hS hT => impl_renamed.calls A0_2 c0_2 l0_2.length l0_2 A2059 c2060 l2058.length l2058 hB hF (hS _ R0_2) hc0_2 (hT 4 _ rfl).row (hT 4 _ rfl).cap _ hx2075)) (cur2 (fun A2077 c2078 => ?_))
      refine o_q rfl rfl (q_f F25_2 rfl) ?_
      refine o_e rfl (zad (i := 4) rfl rfl rfl rfl Z23 rfl rfl) (fun _ => ?_)
      refine o_end ?_
      refine za1 ?_
      refine c_seq ?_
      refine za0 ?_
      refine o_q rfl rfl (q_ldB G25 Z25 rfl (fun w h => h.zaj (i := 4) rfl) rfl) ?_
      refine o_e rfl (zav (i := 2) rfl rfl rfl Z25 rfl rfl) (fun _ => ?_)
      refine o_end ?_
      refine za1 ?_
      refine c_ret ?_
      have e0_ := Option.some.inj h; clear h
      have d0_ := (Prod.mk.inj e0_).1; have e1_ := (Prod.mk.inj e0_).2; clear e0_; subst d0_
      subst e1_
      exact x_r1 (A2062, c2063, A2077, c2078) Try.results62 (rv_cell rfl G25 Z25 (fun w h => h.zaj (i := 2) rfl) rfl) rfl (fun w h => za6 [1, 0] (by decide) rfl w h)
    · skip
      clear hl2071
      have hr2068 := hJ_.1; have hk2074 := hJ_.2.1; have h := hJ_.2.2; clear hJ_
      replace h : impl_Plan_trimmed.l0 a0_0 l1024 (y2065 :: ys2066) l2058 l2061 i2064 = some o2072 := h
      rw [impl_Plan_trimmed.l0] at h
      refine c_seq ?_
      refine za0 ?_
      refine o_q rfl rfl (q_lss rfl rfl) ?_
      refine o_end ?_
      refine za1 ?_
      refine c_seq ?_
      refine c_true (congrArg Value.bool hr2068.lt) ?_
      refine zat ?_
      refine za1 ?_
      refine c_seq ?_
      refine zaq ?_
      refine c_seq ?_
      refine za0 ?_
      refine o_q rfl rfl (za2 rfl) ?_
      refine zb4 (p := Sh A0_1 l0_1.length l0_1.length) (fun w h => f_sh (dk := kStep) h (fun w h => R0_1.now Z h)) (fun hq2079 => ?_)
      refine o_q rfl rfl (q_ix Try.underlying22 Z107 rfl rfl hq2079 hr2068.get) ?_
      refine o_q rfl rfl (q_ldE G107 Z107 rfl rfl (fun w h => R0_1.now Z h) hr2068.get (fun _ _ h => h) rfl) ?_
      refine o_e rfl (zam V107 rfl) (fun g2080 => ?_)
      refine o_q rfl rfl (q_asg rfl) ?_
      refine o_e rfl (zav (i := 0) rfl rfl rfl Z107 rfl rfl) (fun _ => ?_)
      refine o_end ?_
      refine za1 ?_
      refine c_seq ?_
      refine za0 ?_
      refine o_q rfl rfl (za2 rfl) ?_
      refine zab h (fun _ hx2082 h => ?_) rfl
      refine o_e rfl (za8 0 Z Try.func115 N115 rfl rfl rfl (fun w P1 hF hB hS hT => impl_Plan_many.calls g1027 a0_0 A2062 c2063 l2061.length l2061 none 0 0 [] hB hF (hT 1 _ rfl).row (hT 1 _ rfl).cap (stab_nil _) (Nat.le_refl 0) (hT 4 _ rfl).box hx2082)) (fun _ => ?_)
      refine o_e rfl (e_lit (vs := [(0, .int .i64 (w64 (a0_0 + (l2061.length : Int))))]) (cs := [.int .i64 (w64 (a0_0 + (l2061.length : Int)))]) (Kd.int .i64) ([w64 (a0_0 + (l2061.length : Int))] : List Int) Try.underlying23 I3 (by decide) rfl (by decide) rfl rfl (fun _ _ => Kd.zah _)) (cur2 (fun A2083 c2084 => ?_))
      refine zab h (fun l2086 ha2087 h => ?_) rfl
      refine o_e rfl (e_app (i := 6) (j := 0) Try.underlying23 I3 rfl (by decide) (by decide) rfl rfl rfl rfl rfl ha2087) (cur2 (fun A2088 c2089 => ?_))
      refine o_q rfl rfl (q_asg rfl) ?_
      refine o_end ?_
      refine za1 ?_
      refine c_seq ?_
      refine za0 ?_
      refine o_q rfl rfl (za2 rfl) ?_
      refine o_q rfl rfl (za2 rfl) ?_
      refine o_q rfl rfl (q_nil rfl) ?_
      refine o_q rfl rfl (q_f F25_0 rfl) ?_
      refine o_q rfl rfl (q_ldb Y3 rfl (fun w h => B0.now Z h) rfl) ?_
      refine o_q rfl rfl (za2 rfl) ?_
      refine o_q rfl rfl (zb7 rfl rfl) ?_
      refine zb4 (p := Sh A1025 l1024.length l1024.length) (fun w h => f_sh (dk := Kd.bool) h (fun w h => h.zaw (i := 4) rfl)) (fun hq2090 => ?_)
      refine zab h (fun y2092 hg2091 h => ?_) rfl
      refine o_q rfl rfl (q_ix Try.underlying117 Z4 rfl rfl hq2090 hg2091) ?_
      refine o_q rfl rfl (q_lde (off := 0) Y4 rfl rfl (fun w h => h.zaw (i := 4) rfl) hg2091 (fun _ _ h => h) rfl) ?_
      refine o_end ?_
      refine za1 ?_
      refine zb0 _ rfl (fun hb2093 => ?_) (fun hb2093 => ?_)
      · skip
        replace h := bb_t hb2093 h
        refine zab h (fun y2397 hg2396 h => ?_) rfl
        refine zab h (fun y2696 hg2695 h => ?_) rfl
        refine zab h (fun _ hx2815 h => ?_) rfl
        refine zab h (fun l2935 ha2936 h => ?_) rfl
        refine a_startS (ds := []) [none, some 1, none, some 3, some 4, none, some 6] MO rfl ?_
        refine za7 0 rfl rfl rfl (by kernel_rfl) (fun _ _ _ h => h) (q_f F25_1 rfl) ?_
        refine za7 2 rfl rfl rfl (by kernel_rfl) (fun _ _ _ h => h) (za2 rfl) ?_
        refine za7 3 rfl rfl rfl (by kernel_rfl) (fun _ _ _ h => h) (q_f F107_0 rfl) ?_
        refine zb2 4 rfl rfl rfl (by kernel_rfl) (fun _ _ _ h => h) (fun w h => za3 [none, some 1, none, some 3, some 4, none, some 6] (by decide) w h rfl) (q_ldb Y3 rfl (fun w h => h.zaj (i := 1) rfl) rfl) ?_
        refine a_fact (p := Sh A2088 l2086.length l2086.length) (fun w h => f_sh (dk := (Kd.int .i64)) h (fun w h => h.zaw (i := 6) rfl)) (fun hq2395 => ?_)
        refine za7 5 rfl rfl rfl (by kernel_rfl) (fun _ _ _ h => h) (q_ix Try.underlying23 Z3 rfl rfl hq2395 hg2396) ?_
        refine zb2 6 rfl rfl rfl (by kernel_rfl) (fun _ _ _ h => h) (fun w h => za3 [none, some 1, none, some 3, some 4, none, some 6] (by decide) w h rfl) (q_lde (off := 0) Y3 rfl rfl (fun w h => h.zaw (i := 6) rfl) hg2396 (fun _ _ h => h) rfl) ?_
        refine za7 7 rfl rfl rfl (by kernel_rfl) (fun _ _ _ h => h) (za2 rfl) ?_
        refine za7 8 rfl rfl rfl (by kernel_rfl) (fun _ _ _ h => h) (q_f F107_1 rfl) ?_
        refine zb2 9 rfl rfl rfl (by kernel_rfl) (fun _ _ _ h => h) (fun w h => za3 [none, some 1, none, some 3, some 4, none, some 6] (by decide) w h rfl) (q_ldb Y3 rfl (fun w h => h.zaj (i := 1) rfl) rfl) ?_
        refine za7 10 rfl rfl rfl (by kernel_rfl) (fun _ _ _ h => h) (q_ix Try.underlying23 Z3 rfl rfl hq2395 hg2695) ?_
        refine zb2 11 rfl rfl rfl (by kernel_rfl) (fun _ _ _ h => h) (fun w h => za3 [none, some 1, none, some 3, some 4, none, some 6] (by decide) w h rfl) (q_lde (off := 0) Y3 rfl rfl (fun w h => h.zaw (i := 6) rfl) hg2695 (fun _ _ h => h) rfl) ?_
        refine a_two 1 12 rfl rfl rfl rfl (by kernel_rfl) rfl rfl (ev_q rfl (q_ldb Y22 rfl (fun w h => h.zaj (i := 5) rfl) rfl)) (fun s w h => za3 [none, some 1, none, some 3, some 4, none, some 6] (by decide) w h rfl) (za8 0 Z Try.func114 N114 rfl rfl rfl (fun w P1 hF hB hS hT => impl_step.calls y2397 y2696 hB hF hx2815)) (fun s w h => za3 [none, some 1, none, some 3, some 4, none, some 6] (by decide) w h rfl) (fun _ => ?_) (fun _ => ?_)
        · skip
          refine a_one 12 rfl rfl (by kernel_rfl) rfl (za8 0 Z Try.func114 N114 rfl rfl rfl (fun w P1 hF hB hS hT => impl_step.calls y2397 y2696 hB hF hx2815)) (fun s w h => za3 [none, some 1, none, some 3, some 4, none, some 6] (by decide) w h rfl) (fun _ => ?_)
          refine a_one 13 rfl rfl (by kernel_rfl) rfl (e_lit (vs := [(0, .agg #[.int .i64 (mn y2397 y2696), .int .i64 (mx y2397 y2696)])]) (cs := [.int .i64 (mn y2397 y2696), .int .i64 (mx y2397 y2696)]) kStep ([(⟨mn y2397 y2696, mx y2397 y2696⟩ : SStep)] : List SStep) Try.underlying22 I107 (by decide) rfl (by decide) rfl rfl (fun _ _ => reps_flat _)) (fun s w h => za3 [none, some 2, none, some 4, some 5, none, some 7] (by decide) w h rfl) (cur2 (fun A2875 c2876 => ?_))
          refine a_one 14 rfl rfl (by kernel_rfl) rfl (e_app (i := 3) (j := 0) Try.underlying22 I107 rfl (by decide) (by decide) rfl rfl rfl rfl rfl ha2936) (fun s w h => za3 [none, some 2, none, some 4, some 5, none, some 7] (by decide) w h rfl) (cur2 (fun A2937 c2938 => ?_))
          refine za7 15 rfl rfl rfl (by kernel_rfl) (fun _ _ _ h => h) (q_f F25_1 rfl) ?_
          refine a_one 16 rfl rfl (by kernel_rfl) rfl (zad (i := 6) rfl rfl rfl rfl Z22 rfl rfl) (fun s w h => za3 [none, some 2, none, some 4, some 5, none, some 7] (by decide) w h rfl) (fun _ => ?_)
          refine zan (by kernel_rfl) ?_
          refine zas ?_
          refine za1 ?_
          refine za0 ?_
          refine o_q rfl rfl (q_up rfl rfl (hr2068.up hm2069)) ?_
          refine o_q rfl rfl (za2 rfl) ?_
          refine o_end ?_
          refine zar ys2066.length (ys2066, l2086, l2935, i2064 + 1, A2088, c2089, A2937, c2938) (by rw [← hk2074]; exact Nat.lt_succ_self _) ⟨hr2068.step, rfl, h⟩ ⟨rfl, rfl, trivial⟩ (fun w h => za6 [3, 4, 5, 6, 7] (by decide) rfl w h) ?_
          repeat (first | exact za9 _ _ | refine zae rfl ?_ | refine zaa rfl ?_ | refine zaf rfl ?_)
        · skip
          refine a_two 1 13 rfl rfl rfl rfl (by kernel_rfl) rfl rfl (ev_q rfl (q_ldb Y22 rfl (fun w h => h.zaj (i := 5) rfl) rfl)) (fun s w h => za3 [none, some 1, none, some 3, some 4, none, some 6] (by decide) w h rfl) (e_lit (vs := [(0, .agg #[.int .i64 (mn y2397 y2696), .int .i64 (mx y2397 y2696)])]) (cs := [.int .i64 (mn y2397 y2696), .int .i64 (mx y2397 y2696)]) kStep ([(⟨mn y2397 y2696, mx y2397 y2696⟩ : SStep)] : List SStep) Try.underlying22 I107 (by decide) rfl (by decide) rfl rfl (fun _ _ => reps_flat _)) (fun s w h => za3 [none, some 2, none, some 4, some 5, none, some 7] (by decide) w h rfl) (fun _ => ?_) (cur2 (fun A2875 c2876 => ?_))
          · skip
            refine a_one 13 rfl rfl (by kernel_rfl) rfl (e_lit (vs := [(0, .agg #[.int .i64 (mn y2397 y2696), .int .i64 (mx y2397 y2696)])]) (cs := [.int .i64 (mn y2397 y2696), .int .i64 (mx y2397 y2696)]) kStep ([(⟨mn y2397 y2696, mx y2397 y2696⟩ : SStep)] : List SStep) Try.underlying22 I107 (by decide) rfl (by decide) rfl rfl (fun _ _ => reps_flat _)) (fun s w h => za3 [none, some 2, none, some 4, some 5, none, some 7] (by decide) w h rfl) (cur2 (fun A2875 c2876 => ?_))
            refine a_one 14 rfl rfl (by kernel_rfl) rfl (e_app (i := 3) (j := 0) Try.underlying22 I107 rfl (by decide) (by decide) rfl rfl rfl rfl rfl ha2936) (fun s w h => za3 [none, some 2, none, some 4, some 5, none, some 7] (by decide) w h rfl) (cur2 (fun A2937 c2938 => ?_))
            refine za7 15 rfl rfl rfl (by kernel_rfl) (fun _ _ _ h => h) (q_f F25_1 rfl) ?_
            refine a_one 16 rfl rfl (by kernel_rfl) rfl (zad (i := 6) rfl rfl rfl rfl Z22 rfl rfl) (fun s w h => za3 [none, some 2, none, some 4, some 5, none, some 7] (by decide) w h rfl) (fun _ => ?_)
            refine zan (by kernel_rfl) ?_
            refine zas ?_
            refine za1 ?_
            refine za0 ?_
            refine o_q rfl rfl (q_up rfl rfl (hr2068.up hm2069)) ?_
            refine o_q rfl rfl (za2 rfl) ?_
            refine o_end ?_
            refine zar ys2066.length (ys2066, l2086, l2935, i2064 + 1, A2088, c2089, A2937, c2938) (by rw [← hk2074]; exact Nat.lt_succ_self _) ⟨hr2068.step, rfl, h⟩ ⟨rfl, rfl, trivial⟩ (fun w h => za6 [3, 4, 5, 6, 7] (by decide) rfl w h) ?_
            repeat (first | exact za9 _ _ | refine zae rfl ?_ | refine zaa rfl ?_ | refine zaf rfl ?_)
          · skip
            refine a_one 1 rfl rfl (by kernel_rfl) rfl (ev_q rfl (q_ldb Y22 rfl (fun w h => h.zaj (i := 6) rfl) rfl)) (fun s w h => za3 [none, some 2, none, some 4, some 5, none, some 7] (by decide) w h rfl) (fun _ => ?_)
            refine a_one 14 rfl rfl (by kernel_rfl) rfl (e_app (i := 3) (j := 0) Try.underlying22 I107 rfl (by decide) (by decide) rfl rfl rfl rfl rfl ha2936) (fun s w h => za3 [none, some 2, none, some 4, some 5, none, some 7] (by decide) w h rfl) (cur2 (fun A2937 c2938 => ?_))
            refine za7 15 rfl rfl rfl (by kernel_rfl) (fun _ _ _ h => h) (q_f F25_1 rfl) ?_
            refine a_one 16 rfl rfl (by kernel_rfl) rfl (zad (i := 6) rfl rfl rfl rfl Z22 rfl rfl) (fun s w h => za3 [none, some 2, none, some 4, some 5, none, some 7] (by decide) w h rfl) (fun _ => ?_)
            refine zan (by kernel_rfl) ?_
            refine zas ?_
            refine za1 ?_
            refine za0 ?_
            refine o_q rfl rfl (q_up rfl rfl (hr2068.up hm2069)) ?_
            refine o_q rfl rfl (za2 rfl) ?_
            refine o_end ?_
            refine zar ys2066.length (ys2066, l2086, l2935, i2064 + 1, A2088, c2089, A2937, c2938) (by rw [← hk2074]; exact Nat.lt_succ_self _) ⟨hr2068.step, rfl, h⟩ ⟨rfl, rfl, trivial⟩ (fun w h => za6 [3, 4, 5, 6, 7] (by decide) rfl w h) ?_
            repeat (first | exact za9 _ _ | refine zae rfl ?_ | refine zaa rfl ?_ | refine zaf rfl ?_)
      · skip
        replace h := bb_f hb2093 h
        refine zat ?_
        refine zas ?_
        refine za1 ?_
        refine za0 ?_
        refine o_q rfl rfl (q_up rfl rfl (hr2068.up hm2069)) ?_
        refine o_q rfl rfl (za2 rfl) ?_
        refine o_end ?_
        refine zar ys2066.length (ys2066, l2086, l2061, i2064 + 1, A2088, c2089, A2062, c2063) (by rw [← hk2074]; exact Nat.lt_succ_self _) ⟨hr2068.step, rfl, h⟩ ⟨rfl, rfl, trivial⟩ (fun w h => za6 [2, 3, 4, 5, 6] (by decide) rfl w h) ?_
        repeat (first | exact za9 _ _ | refine zae rfl ?_ | refine zaa rfl ?_ | refine zaf rfl ?_)

/-! ### loop.example/g01098/impl.told: function 61 -/
def impl_told.f (k : Nat) (a0_0 : Int) (l0_1 : List SStep) (l0_2 : List Int) : Option (Int × (List SStep) × (List Int) × Bool) := (impl_IsPlan.f k a0_0 l0_1 l0_2).bind fun b6 => if b6 = true then (some (a0_0, l0_1, l0_2, true)) else (some (0, ([] : List SStep), ([] : List Int), false))
set_option maxHeartbeats 600000 in
set_option maxRecDepth 100000 in
theorem impl_told.calls (k : Nat) {w0 ws : World} {P0 : Nat → Prop} (a0_0 : Int) (A0_1 : Option Addr) (c0_1 : Nat) (n0_1 : Nat) (l0_1 : List SStep) (A0_2 : Option Addr) (c0_2 : Nat) (n0_2 : Nat) (l0_2 : List Int) (Z : Below w0.heap.size w0 ws) (hF : Fr w0 ws P0 [row kStep 107 (.slice A0_1 n0_1 c0_1) l0_1, row (Kd.int .i64) 3 (.slice A0_2 n0_2 c0_2) l0_2] ws)  (r_1 : Int) (r_2 : List SStep) (r_5 : List Int) (r_8 : Bool) (h : impl_told.f k a0_0 l0_1 l0_2 = some (r_1, r_2, r_5, r_8)) :
    Calls Try.prog 61 #[.agg #[.int .i64 a0_0, .slice A0_1 n0_1 c0_1, .slice A0_2 n0_2 c0_2]] ws (Post1 w0 ws P0 (fun ((q_3, q_4, q_6, q_7) : (Option Addr) × Nat × (Option Addr) × Nat) => .tuple #[.agg #[.int .i64 r_1, .slice q_3 r_2.length q_4, .slice q_6 r_5.length q_7], .bool r_8]) (fun ((q_3, q_4, q_6, q_7) : (Option Addr) × Nat × (Option Addr) × Nat) => [row kStep 107 (.slice q_3 r_2.length q_4) r_2, row (Kd.int .i64) 3 (.slice q_6 r_5.length q_7) r_5])) := by
  unfold impl_told.f at h
  obtain rfl := (hF.row_C (i := 0) rfl).2.1
  obtain rfl := (hF.row_C (i := 1) rfl).2.1
  refine enter Try.func61 rfl Try.ntmps61 rfl hF ?_
  refine c_seq ?_
  refine za0 ?_
  refine o_e rfl (e_box rfl) (fun g1 => ?_)
  refine o_e rfl (zam V25 rfl) (fun g3 => ?_)
  refine o_q rfl rfl (q_asg rfl) ?_
  refine o_end ?_
  refine za1 ?_
  refine c_seq ?_
  refine c_seq ?_
  refine za0 ?_
  refine o_q rfl rfl (q_ldB G25 Z25 rfl (fun w h => h.zaj (i := 1) rfl) rfl) ?_
  refine zab h (fun b6 hx5 h => ?_) rfl
  refine o_e rfl (za8 0 Z Try.func90 N90 rfl rfl rfl (fun w P1 hF hB hS hT => impl_IsPlan.calls k a0_0 A0_1 c0_1 l0_1.length l0_1 A0_2 c0_2 l0_2.length l0_2 hB hF (hT 2 _ rfl).row (hT 2 _ rfl).cap (hT 3 _ rfl).row (hT 3 _ rfl).cap _ hx5)) (fun _ => ?_)
  refine o_q rfl rfl (q_not rfl) ?_
  refine o_end ?_
  refine za1 ?_
  refine zb0 _ rfl (fun hb7 => ?_) (fun hb7 => ?_)
  · replace hb7 := nt_t hb7
    replace h := bb_f hb7 h
    refine c_seq ?_
    refine za0 ?_
    refine o_q rfl rfl (q_build (vs := []) (cs := [.int .i64 0, .slice none 0 0, .slice none 0 0]) rfl rfl) ?_
    refine o_e rfl (zav (i := 0) rfl rfl rfl Z25 rfl rfl) (fun _ => ?_)
    refine o_q rfl rfl (q_asg rfl) ?_
    refine o_end ?_
    refine za1 ?_
    refine c_ret ?_
    refine zai ?_
    refine x_nil kStep 107 ?_
    refine x_nil (Kd.int .i64) 3 ?_
    have e0_ := Option.some.inj h; clear h
    have d0_ := (Prod.mk.inj e0_).1; have e1_ := (Prod.mk.inj e0_).2; clear e0_; subst d0_
    have d1_ := (Prod.mk.inj e1_).1; have e2_ := (Prod.mk.inj e1_).2; clear e1_; subst d1_
    have d2_ := (Prod.mk.inj e2_).1; have e3_ := (Prod.mk.inj e2_).2; clear e2_; subst d2_
    subst e3_
    exact x_r2 (none, 0, none, 0) Try.results61 (rv_cell rfl G25 Z25 (fun w h => h.zaj (i := 2) rfl) rfl) (zal rfl) rfl (fun w h => za6 [1, 0] (by decide) rfl w h)
  · replace hb7 := nt_f hb7
    replace h := bb_t hb7 h
    refine zat ?_
    refine za1 ?_
    refine c_seq ?_
    refine za0 ?_
    refine o_q rfl rfl (q_ldB G25 Z25 rfl (fun w h => h.zaj (i := 1) rfl) rfl) ?_
    refine o_e rfl (zav (i := 0) rfl rfl rfl Z25 rfl rfl) (fun _ => ?_)
    refine o_q rfl rfl (q_asg rfl) ?_
    refine o_end ?_
    refine za1 ?_
    refine c_ret ?_
    have e0_ := Option.some.inj h; clear h
    have d0_ := (Prod.mk.inj e0_).1; have e1_ := (Prod.mk.inj e0_).2; clear e0_; subst d0_
    have d1_ := (Prod.mk.inj e1_).1; have e2_ := (Prod.mk.inj e1_).2; clear e1_; subst d1_
    have d2_ := (Prod.mk.inj e2_).1; have e3_ := (Prod.mk.inj e2_).2; clear e2_; subst d2_
    subst e3_
    exact x_r2 (A0_1, c0_1, A0_2, c0_2) Try.results61 (rv_cell rfl G25 Z25 (fun w h => h.zaj (i := 0) rfl) rfl) (zal rfl) rfl (fun w h => za6 [2, 3] (by decide) rfl w h)

/-! ### loop.example/g01098/impl.SlidingPlan: function 16 -/
def impl_SlidingPlan.l0 (i57 : Int) (i60 : Int) : Nat → (List SStep) → Int → (List (Int × Int)) → Option ((List SStep) × (List (Int × Int)))
  | 0, _, _, _ => none
  | k71 + 1, l64, i67, m68 => if i67 ≤ i57 then ((mget m68 (w64 (i67 - 2))).bind fun i80 => (impl_maker_multiply.f 1 l64 [] i80 i60).bind fun (i83, l84) => (mput m68 i67 i83).bind fun m87 => impl_SlidingPlan.l0 i57 i60 k71 l84 (w64 (i67 + 2)) m87) else (some (l64, m68))
def impl_SlidingPlan.l1 (m50 : List (Int × Int)) : (List Swindow) → (List SStep) → Int → Int → Option ((List SStep) × Int)
  | [], l102, i105, i106 => some (l102, i105)
  | y107 :: ys108, l102, i105, i106 => (impl_maker_squared.f 1 l102 [] i105 y107.f1).bind fun (i143, l144) => if 0 < y107.f0 then ((mget m50 y107.f0).bind fun i148 => (impl_maker_multiply.f 1 l144 [] i143 i148).bind fun (i151, l152) => impl_SlidingPlan.l1 m50 ys108 l152 i151 (i106 + 1)) else (impl_SlidingPlan.l1 m50 ys108 l144 i143 (i106 + 1))
def impl_SlidingPlan.f (k : Nat) (a0 : Int) (a1 : Int) : Option (Int × (List SStep) × (List Int) × Bool) := (impl_WindowsOf.f k a0 a1).bind fun (l4, b5) => if b5 = true then ((impl_newMaker.f 1).bind fun _ => (mput ([] : List (Int × Int)) 1 0).bind fun m12 => ((slices_Max_int_int.f k l4).bind fun i57 => if 3 ≤ i57 then ((impl_maker_multiply.f 1 [] [] 0 0).bind fun (i60, l61) => (impl_SlidingPlan.l0 i57 i60 k l61 3 m12).bind fun (l64, m68) => some (l64, m68)) else (some ([], m12))).bind fun (l47, m50) => (impl_windows.f k a0 a1).bind fun l91 => (gt l91 0).bind fun y96 => (mget m50 y96.f0).bind fun i97 => (ct l91 (1 : Int) (l91.length : Int)).bind fun l99 => (impl_SlidingPlan.l1 m50 l99 l47 i97 0).bind fun (l102, i105) => (impl_maker_plan.f 1 l102 [] ([i105] : List Int)).bind fun _ => (impl_Plan_trimmed.f 1 l102 ([i105] : List Int)).bind fun (l124, l125) => (impl_told.f k 1 l124 l125).bind fun (i131, l132, l133, b134) => some (i131, l132, l133, b134)) else (some (0, ([] : List SStep), ([] : List Int), false))
set_option maxHeartbeats 600000 in
set_option maxRecDepth 100000 in
theorem impl_SlidingPlan.calls (k : Nat) {w0 ws : World} {P0 : Nat → Prop} (a0 : Int) (a1 : Int) (Z : Below w0.heap.size w0 ws) (hF : Fr w0 ws P0 [] ws)  (r_1 : Int) (r_2 : List SStep) (r_5 : List Int) (r_8 : Bool) (h : impl_SlidingPlan.f k a0 a1 = some (r_1, r_2, r_5, r_8)) :
    Calls Try.prog 16 #[.int .i64 a0, .int .i64 a1] ws (Post1 w0 ws P0 (fun ((q_3, q_4, q_6, q_7) : (Option Addr) × Nat × (Option Addr) × Nat) => .tuple #[.agg #[.int .i64 r_1, .slice q_3 r_2.length q_4, .slice q_6 r_5.length q_7], .bool r_8]) (fun ((q_3, q_4, q_6, q_7) : (Option Addr) × Nat × (Option Addr) × Nat) => [row kStep 107 (.slice q_3 r_2.length q_4) r_2, row (Kd.int .i64) 3 (.slice q_6 r_5.length q_7) r_5])) := by
  unfold impl_SlidingPlan.f at h
  refine enter Try.func16 rfl Try.ntmps16 rfl hF ?_
  refine c_seq ?_
  refine za0 ?_
  refine o_e rfl (zam V25 rfl) (fun g1 => ?_)
  refine o_q rfl rfl (q_asg rfl) ?_
  refine o_end ?_
  refine za1 ?_
  refine c_seq ?_
  refine za0 ?_
  refine o_q rfl rfl (za2 rfl) ?_
  refine o_q rfl rfl (za2 rfl) ?_
  refine bindE2 h (fun l4 b5 hx3 h => ?_) rfl
  refine o_e rfl (za8 0 Z Try.func26 N26 rfl rfl rfl (fun w P1 hF hB hS hT => impl_WindowsOf.calls k a0 a1 hB hF _ _ hx3)) (cur2 (fun A6 c7 => ?_))
  refine o_q rfl rfl (za2 rfl) ?_
  refine o_q rfl rfl (q_ext rfl rfl) ?_
  refine o_q rfl rfl (q_ext rfl rfl) ?_
  refine o_q rfl rfl (q_asg rfl) ?_
  refine o_q rfl rfl (q_asg rfl) ?_
  refine o_end ?_
  refine za1 ?_
  refine c_seq ?_
  refine c_seq ?_
  refine za0 ?_
  refine o_q rfl rfl (za2 rfl) ?_
  refine o_q rfl rfl (q_not rfl) ?_
  refine o_end ?_
  refine za1 ?_
  refine zb0 _ rfl (fun hb8 => ?_) (fun hb8 => ?_)
  · replace hb8 := nt_t hb8
    replace h := bb_f hb8 h
    refine c_seq ?_
    refine za0 ?_
    refine o_q rfl rfl (q_build (vs := []) (cs := [.int .i64 0, .slice none 0 0, .slice none 0 0]) rfl rfl) ?_
    refine o_e rfl (zav (i := 1) rfl rfl rfl Z25 rfl rfl) (fun _ => ?_)
    refine o_q rfl rfl (q_asg rfl) ?_
    refine o_end ?_
    refine za1 ?_
    refine c_ret ?_
    refine zai ?_
    refine x_nil kStep 107 ?_
    refine x_nil (Kd.int .i64) 3 ?_
    have e0_ := Option.some.inj h; clear h
    have d0_ := (Prod.mk.inj e0_).1; have e1_ := (Prod.mk.inj e0_).2; clear e0_; subst d0_
    have d1_ := (Prod.mk.inj e1_).1; have e2_ := (Prod.mk.inj e1_).2; clear e1_; subst d1_
    have d2_ := (Prod.mk.inj e2_).1; have e3_ := (Prod.mk.inj e2_).2; clear e2_; subst d2_
    subst e3_
    exact x_r2 (none, 0, none, 0) Try.results16 (rv_cell rfl G25 Z25 (fun w h => h.zaj (i := 3) rfl) rfl) (zal rfl) rfl (fun w h => za6 [1, 0] (by decide) rfl w h)
  · replace hb8 := nt_f hb8
    replace h := bb_t hb8 h
    refine zat ?_
    refine za1 ?_
    refine c_seq ?_
    refine za0 ?_
    refine zab h (fun _ hx9 h => ?_) rfl
    refine o_e rfl (za8 0 Z Try.func54 N54 rfl rfl rfl (fun w P1 hF hB hS hT => impl_newMaker.calls 1 hB hF hx9)) (fun c10 => ?_)
    refine o_mkMap (k := 3) (e := 3) Cv.refl (fun b11 ws P0 hb_ hb0_ Z GM cv => ?_)
    refine zab h (fun m12 hp13 h => ?_) rfl
    refine o_mapUpd Try.underlying72 Try.underlying3 Try.underlying3 (.inr rfl) rfl rfl rfl hp13 Z GM cv hb_ hb0_ (fun ws P0 Z GM cv => ?_)
    refine o_q rfl rfl (za2 rfl) ?_
    refine o_q rfl rfl (q_asg rfl) ?_
    refine o_q rfl rfl (q_asg rfl) ?_
    refine o_end ?_
    refine za1 ?_
    refine zab h (fun o51 hl52 hR53 => ?_) rfl
    clear h
    refine c_cutM (k := 3) (e := 3) (b := b11) (σ := (List SStep) × (List (Int × Int)) × (Option Addr) × Nat) (fun (l47, m50, A48, c49) => some (l47, m50) = some o51) [10, 11, 12, 30, 31, 32, 33, 34, 35, 36, 37, 38, 39, 40, 41, 42, 43, 44, 45, 46, 47, 48, 49] (fun (l47, m50, A48, c49) => []) (fun (l47, m50, A48, c49) => [box g1 25 #[.int .i64 0, .slice none 0 0, .slice none 0 0], box c10 94 #[.int .i64 1, .slice A48 l47.length c49, .slice none 0 0], row kStep 107 (.slice A48 l47.length c49) l47, row (Kd.int .i64) 3 (.slice none 0 0) [], row (Kd.int .i64) 3 (.slice A6 l4.length c7) l4]) (fun (l47, m50, A48, c49) => m50) cv ?_ ?_
    · skip
      have h := hl52; clear hl52
      clear hR53
      refine c_seq ?_
      refine za0 ?_
      refine o_q rfl rfl (za2 rfl) ?_
      refine zab h (fun i57 hx56 h => ?_) rfl
      refine o_e rfl (za8 0 Z Try.func56 N56 rfl rfl rfl (fun w P1 hF hB hS hT => slices_Max_int_int.calls k A6 c7 l4.length l4 hB hF (hT 3 _ rfl).row (hT 3 _ rfl).cap _ hx56)) (fun _ => ?_)
      refine o_q rfl rfl (q_asg rfl) ?_
      refine o_end ?_
      refine za1 ?_
      refine c_seq ?_
      refine za0 ?_
      refine o_q rfl rfl (za2 rfl) ?_
      refine o_q rfl rfl (q_geq rfl rfl) ?_
      refine o_end ?_
      refine za1 ?_
      refine zb0 _ rfl (fun hb58 => ?_) (fun hb58 => ?_)
      · skip
        replace h := br_t hb58 h
        refine c_seq ?_
        refine za0 ?_
        refine o_q rfl rfl (za2 rfl) ?_
        refine bindE2 h (fun i60 l61 hx59 h => ?_) rfl
        refine o_e rfl (za8 2 Z Try.func57 N57 rfl rfl rfl (fun w P1 hF hB hS hT => impl_maker_multiply.calls c10 1 none 0 0 [] none 0 0 [] 0 0 hB hF (hT 0 _ rfl).row (hT 0 _ rfl).cap _ _ hx59)) (cur2 (fun A62 c63 => ?_))
        refine o_q rfl rfl (q_asg rfl) ?_
        refine o_end ?_
        refine za1 ?_
        refine c_seq ?_
        refine za0 ?_
        refine o_q rfl rfl (q_asg rfl) ?_
        refine o_end ?_
        refine za1 ?_
        refine zaq ?_
        refine zab h (fun o76 hl75 hR74 => ?_) rfl
        clear h
        refine c_loopM (k := 3) (e := 3) (b := b11) (σ := (List SStep) × Int × (List (Int × Int)) × (Option Addr) × Nat) (fun k71 ((l64, i67, m68, A65, c66) : (List SStep) × Int × (List (Int × Int)) × (Option Addr) × Nat) => impl_SlidingPlan.l0 i57 i60 k71 l64 i67 m68 = some o76) [12, 36, 37, 38, 39, 40, 41, 42, 43, 44, 45, 46, 47, 48, 49] (fun ((l64, i67, m68, A65, c66) : (List SStep) × Int × (List (Int × Int)) × (Option Addr) × Nat) => [(12, .int .i64 i67)]) (fun ((l64, i67, m68, A65, c66) : (List SStep) × Int × (List (Int × Int)) × (Option Addr) × Nat) => [box c10 94 #[.int .i64 1, .slice A65 l64.length c66, .slice none 0 0], row kStep 107 (.slice A65 l64.length c66) l64, row (Kd.int .i64) 3 (.slice none 0 0) [], row (Kd.int .i64) 3 (.slice A6 l4.length c7) l4, box g1 25 #[.int .i64 0, .slice none 0 0, .slice none 0 0]]) (fun ((l64, i67, m68, A65, c66) : (List SStep) × Int × (List (Int × Int)) × (Option Addr) × Nat) => m68) k (l61, 3, m12, A62, c63) hl75 ⟨rfl, trivial⟩ (fun w h => h) Z GM cv ?_
        refine natC (cur5 (fun l64 i67 m68 A65 c66 => fun U77 hJ_ ws P0 Z GM cv => ?_)) (fun k71 => (cur5 (fun l64 i67 m68 A65 c66 => fun U77 hJ_ ws P0 Z GM cv => ?_)))
        · skip
          replace hJ_ : impl_SlidingPlan.l0 i57 i60 0 l64 i67 m68 = some o76 := hJ_
          rw [impl_SlidingPlan.l0] at hJ_
          exact noneE hJ_
        · skip
          clear hl75
          have h := hJ_; clear hJ_
          replace h : impl_SlidingPlan.l0 i57 i60 (k71 + 1) l64 i67 m68 = some o76 := h
          rw [impl_SlidingPlan.l0] at h
          refine c_seq ?_
          refine c_seq ?_
          refine za0 ?_
          refine o_q rfl rfl (za2 rfl) ?_
          refine o_q rfl rfl (za2 rfl) ?_
          refine o_q rfl rfl (q_leq rfl rfl) ?_
          refine o_end ?_
          refine za1 ?_
          refine zb0 _ rfl (fun hb79 => ?_) (fun hb79 => ?_)
          · skip
            replace h := br_t hb79 h
            refine zat ?_
            refine za1 ?_
            refine c_seq ?_
            refine zaq ?_
            refine za0 ?_
            refine o_q rfl rfl (za2 rfl) ?_
            refine o_q rfl rfl (za2 rfl) ?_
            refine o_q rfl rfl (za2 rfl) ?_
            refine o_q rfl rfl (za2 rfl) ?_
            refine o_q rfl rfl (za2 rfl) ?_
            refine o_q rfl rfl (zb5 rfl rfl) ?_
            refine zab h (fun i80 hp81 h => ?_) rfl
            refine o_q rfl rfl (q_look Try.underlying72 Try.underlying3 Try.underlying3 V3 rfl rfl hp81 Z GM) ?_
            refine o_q rfl rfl (za2 rfl) ?_
            refine bindE2 h (fun i83 l84 hx82 h => ?_) rfl
            refine o_e rfl (za8 2 Z Try.func57 N57 rfl rfl rfl (fun w P1 hF hB hS hT => impl_maker_multiply.calls c10 1 A65 c66 l64.length l64 none 0 0 [] i80 i60 hB hF (hT 0 _ rfl).row (hT 0 _ rfl).cap _ _ hx82)) (cur2 (fun A85 c86 => ?_))
            refine zab h (fun m87 hp88 h => ?_) rfl
            refine o_mapUpd Try.underlying72 Try.underlying3 Try.underlying3 (.inl rfl) rfl rfl rfl hp88 Z GM cv hb_ hb0_ (fun ws P0 Z GM cv => ?_)
            refine o_end ?_
            refine zas ?_
            refine za1 ?_
            refine za0 ?_
            refine o_q rfl rfl (za2 rfl) ?_
            refine o_q rfl rfl (zb7 rfl rfl) ?_
            refine o_q rfl rfl (q_asg rfl) ?_
            refine o_end ?_
            refine x_roundM k71 (l84, w64 (i67 + 2), m87, A85, c86) (Nat.lt_succ_self _) h ⟨rfl, trivial⟩ (fun w h => za6 [0, 1, 2, 3, 4] (by decide) rfl w h) Z GM cv ?_
            repeat (first | exact za9 _ _ | refine zae rfl ?_ | refine zaa rfl ?_ | refine zaf rfl ?_)
          · skip
            replace h := br_f hb79 h
            refine c_exit ?_
            refine zac ?_
            refine zac ?_
            have e_ := Option.some.inj h; replace h := hR74; rw [← e_] at h; clear e_
            refine x_hit ?_
            refine x_meetM (l64, m68, A65, c66) h trivial (fun w h => za6 [4, 0, 1, 2, 3] (by decide) rfl w h) Z GM cv ?_
            repeat (first | exact za9 _ _ | refine zae rfl ?_ | refine zaa rfl ?_ | refine zaf rfl ?_)
      · skip
        replace h := br_f hb58 h
        refine zat ?_
        refine x_fact (p := 0 = [].length) (fun w h => (h.row_C (i := 1) rfl).2.1) (fun hn89 => ?_)
        refine x_meetM ([], m12, none, 0) h trivial (f_pickE (L1 := [box c10 94 #[.int .i64 1, .slice none 0 0, .slice none 0 0], row kStep 107 (.slice none 0 0) [], row (Kd.int .i64) 3 (.slice none 0 0) [], row (Kd.int .i64) 3 (.slice A6 l4.length c7) l4, box g1 25 #[.int .i64 0, .slice none 0 0, .slice none 0 0]]) rfl [4, 0, 1, 2, 3] (by decide) rfl (by (try rw [hn89]); first | done | rfl)) Z GM cv ?_
        repeat (first | exact za9 _ _ | refine zae rfl ?_ | refine zaa rfl ?_ | refine zaf rfl ?_)
    · skip
      refine (cur4 (fun l47 m50 A48 c49 => fun U54 hJ55 ws P0 Z GM cv => ?_))
      have e_ := Option.some.inj hJ55; have h := hR53; rw [← e_] at h; clear e_ hJ55 hR53 hl52
      refine c_seq ?_
      refine za0 ?_
      refine o_q rfl rfl (za2 rfl) ?_
      refine o_q rfl rfl (za2 rfl) ?_
      refine zab h (fun l91 hx90 h => ?_) rfl
      refine o_e rfl (za8 0 Z Try.func67 N67 rfl rfl rfl (fun w P1 hF hB hS hT => impl_windows.calls k a0 a1 hB hF _ hx90)) (cur2 (fun A92 c93 => ?_))
      refine o_q rfl rfl (q_asg rfl) ?_
      refine o_end ?_
      refine za1 ?_
      refine c_seq ?_
      refine za0 ?_
      refine o_q rfl rfl (za2 rfl) ?_
      refine o_q rfl rfl (za2 rfl) ?_
      refine zb4 (p := Sh A92 l91.length l91.length) (fun w h => f_sh (dk := kwindow) h (fun w h => h.zaw (i := 0) rfl)) (fun hq94 => ?_)
      refine zab h (fun y96 hg95 h => ?_) rfl
      refine o_q rfl rfl (q_ix Try.underlying73 Z76 rfl rfl hq94 hg95) ?_
      refine o_q rfl rfl (q_fe F76_0 rfl) ?_
      refine o_q rfl rfl (q_lde (off := 0) Y3 rfl rfl (fun w h => h.zaw (i := 0) rfl) hg95 (fun _ _ h => h) rfl) ?_
      refine zab h (fun i97 hp98 h => ?_) rfl
      refine o_q rfl rfl (q_look Try.underlying72 Try.underlying3 Try.underlying3 V3 rfl rfl hp98 Z GM) ?_
      refine o_q rfl rfl (q_asg rfl) ?_
      refine o_end ?_
      refine za1 ?_
      refine c_seq ?_
      refine c_seq ?_
      refine za0 ?_
      refine o_q rfl rfl (za2 rfl) ?_
      refine zab h (fun l99 hz100 h => ?_) rfl
      refine zb4 (p := l91.length = l91.length ∧ l91.length ≤ c93) (fun w h => h.row_nc (i := 0) rfl) (fun hk101 => ?_)
      refine o_q rfl rfl (q_ctv Try.underlying73 Z76 rfl ⟨_, rfl⟩ rfl hk101.1 hk101.2 hz100) ?_
      refine o_q rfl rfl (q_len Try.underlying73 rfl) ?_
      refine o_q rfl rfl (za2 rfl) ?_
      refine o_end ?_
      refine za1 ?_
      refine zaq ?_
      refine zab h (fun o114 hl113 hR112 => ?_) rfl
      clear h
      refine c_fact (p := l99.length ≤ 9223372036854775807) (fun w h => (C_cut (dk := kwindow) rfl hz100 hk101.2 (h.zaw (i := 0) rfl)).2.1) (fun hm111 => ?_)
      refine zb3 (σ := (List Swindow) × (List SStep) × Int × Int × (Option Addr) × Nat) (fun k109 ((ys108, l102, i105, i106, A103, c104) : (List Swindow) × (List SStep) × Int × Int × (Option Addr) × Nat) => Rg l99 i106 ys108 ∧ ys108.length = k109 ∧ impl_SlidingPlan.l1 m50 ys108 l102 i105 i106 = some o114) [14, 16, 62, 63, 64, 65, 66, 67, 68, 69, 70, 71, 72, 73, 74, 75, 76, 77, 78, 79, 80, 81] (fun ((ys108, l102, i105, i106, A103, c104) : (List Swindow) × (List SStep) × Int × Int × (Option Addr) × Nat) => [(14, .int .i64 i105), (62, .int .i64 i106)]) (fun ((ys108, l102, i105, i106, A103, c104) : (List Swindow) × (List SStep) × Int × Int × (Option Addr) × Nat) => [row kwindow 76 (.slice A92 l91.length c93) l91, box g1 25 #[.int .i64 0, .slice none 0 0, .slice none 0 0], box c10 94 #[.int .i64 1, .slice A103 l102.length c104, .slice none 0 0], row kStep 107 (.slice A103 l102.length c104) l102, row (Kd.int .i64) 3 (.slice none 0 0) [], row (Kd.int .i64) 3 (.slice A6 l4.length c7) l4]) l99.length (l99, l47, i97, 0, A48, c49) ⟨Rg.start _, rfl, hl113⟩ ⟨rfl, rfl, trivial⟩ (fun w h => h) ?_
      refine fun k109 => cur6 (listC (fun l102 i105 i106 A103 c104 U115 hJ_ => ?_) (fun y107 ys108 l102 i105 i106 A103 c104 U115 hJ_ => ?_))
      · skip
        clear hl113
        have hr110 := hJ_.1; have hk116 := hJ_.2.1; have h := hJ_.2.2; clear hJ_
        replace h : impl_SlidingPlan.l1 m50 [] l102 i105 i106 = some o114 := h
        rw [impl_SlidingPlan.l1] at h
        refine c_seq ?_
        refine za0 ?_
        refine o_q rfl rfl (q_lss rfl rfl) ?_
        refine o_end ?_
        refine za1 ?_
        refine c_seq ?_
        refine c_false (congrArg Value.bool hr110.ge) ?_
        refine c_exit ?_
        refine zac ?_
        refine zac ?_
        have e_ := Option.some.inj h; replace h := hR112; rw [← e_] at h; clear e_
        refine x_hit ?_
        refine za1 ?_
        refine c_seq ?_
        refine za0 ?_
        refine o_q rfl rfl (za2 rfl) ?_
        refine o_q rfl rfl (za2 rfl) ?_
        refine o_e rfl (e_lit (vs := [(0, .int .i64 i105)]) (cs := [.int .i64 i105]) (Kd.int .i64) ([i105] : List Int) Try.underlying23 I3 (by decide) rfl (by decide) rfl rfl (fun _ _ => Kd.zah _)) (cur2 (fun A117 c118 => ?_))
        refine o_pick [3, 4, 0, 1, 2, 5, 6] (by decide) rfl ?_
        refine zab h (fun _ hx120 h => ?_) rfl
        refine o_e rfl (za8 3 Z Try.func60 N60 rfl rfl rfl (fun w P1 hF hB hS hT => impl_maker_plan.calls c10 1 A103 c104 l102.length l102 none 0 0 [] A117 c118 (([i105] : List Int).length) ([i105] : List Int) hB hF (hT 2 _ rfl).row (hT 2 _ rfl).cap hx120)) (fun _ => ?_)
        refine o_e rfl (zam V25 rfl) (fun g121 => ?_)
        refine o_e rfl (zav (i := 0) rfl rfl rfl Z25 rfl rfl) (fun _ => ?_)
        refine o_end ?_
        refine za1 ?_
        refine c_seq ?_
        refine za0 ?_
        refine bindE2 h (fun l124 l125 hx123 h => ?_) rfl
        refine o_e rfl (za8 0 Z Try.func62 N62 rfl rfl rfl (fun w P1 hF hB hS hT => impl_Plan_trimmed.calls g121 1 A103 c104 l102.length l102 A117 c118 (([i105] : List Int).length) ([i105] : List Int) hB hF (hT 1 _ rfl).row (hT 1 _ rfl).cap (hT 2 _ rfl).row (hT 2 _ rfl).cap (hT 0 _ rfl).box _ _ hx123)) (cur4 (fun A126 c127 A128 c129 => ?_))
        refine bindE4 h (fun i131 l132 l133 b134 hx130 h => ?_) rfl
        refine o_e rfl (za8 2 Z Try.func61 N61 rfl rfl rfl (fun w P1 hF hB hS hT => impl_told.calls k 1 A126 c127 l124.length l124 A128 c129 l125.length l125 hB hF _ _ _ _ hx130)) (cur4 (fun A135 c136 A137 c138 => ?_))
        refine o_q rfl rfl (q_ext rfl rfl) ?_
        refine o_q rfl rfl (q_ext rfl rfl) ?_
        refine o_e rfl (zav (i := 7) rfl rfl rfl Z25 rfl rfl) (fun _ => ?_)
        refine o_q rfl rfl (q_asg rfl) ?_
        refine o_end ?_
        refine za1 ?_
        refine c_ret ?_
        refine x_cv cv ?_
        have e0_ := Option.some.inj h; clear h
        have d0_ := (Prod.mk.inj e0_).1; have e1_ := (Prod.mk.inj e0_).2; clear e0_; subst d0_
        have d1_ := (Prod.mk.inj e1_).1; have e2_ := (Prod.mk.inj e1_).2; clear e1_; subst d1_
        have d2_ := (Prod.mk.inj e2_).1; have e3_ := (Prod.mk.inj e2_).2; clear e2_; subst d2_
        subst e3_
        exact x_r2 (A135, c136, A137, c138) Try.results16 (rv_cell rfl G25 Z25 (fun w h => h.zaj (i := 7) rfl) rfl) (zal rfl) rfl (fun w h => za6 [0, 1] (by decide) rfl w h)
      · skip
        clear hl113
        have hr110 := hJ_.1; have hk116 := hJ_.2.1; have h := hJ_.2.2; clear hJ_
        replace h : impl_SlidingPlan.l1 m50 (y107 :: ys108) l102 i105 i106 = some o114 := h
        rw [impl_SlidingPlan.l1] at h
        refine c_seq ?_
        refine za0 ?_
        refine o_q rfl rfl (q_lss rfl rfl) ?_
        refine o_end ?_
        refine za1 ?_
        refine c_seq ?_
        refine c_true (congrArg Value.bool hr110.lt) ?_
        refine zat ?_
        refine za1 ?_
        refine c_seq ?_
        refine zaq ?_
        refine c_seq ?_
        refine za0 ?_
        refine zb4 (p := Sh (cutA A92 c93 (1 : Int).toNat 2) l99.length l99.length) (fun w h => f_sh (dk := kwindow) h (fun w h => C_cut (dk := kwindow) rfl hz100 hk101.2 (h.zaw (i := 0) rfl))) (fun hq139 => ?_)
        refine o_q rfl rfl (q_ix Try.underlying73 Z76 rfl rfl hq139 hr110.get) ?_
        refine o_q rfl rfl (q_ldE G76 Z76 rfl rfl (fun w h => C_cut (dk := kwindow) rfl hz100 hk101.2 (h.zaw (i := 0) rfl)) hr110.get (fun _ _ h => h) rfl) ?_
        refine o_e rfl (zam V76 rfl) (fun g140 => ?_)
        refine o_e rfl (zav (i := 0) rfl rfl rfl Z76 rfl rfl) (fun _ => ?_)
        refine o_end ?_
        refine za1 ?_
        refine c_seq ?_
        refine za0 ?_
        refine o_q rfl rfl (za2 rfl) ?_
        refine o_q rfl rfl (za2 rfl) ?_
        refine o_q rfl rfl (q_f F76_1 rfl) ?_
        refine o_q rfl rfl (q_ldb Y3 rfl (fun w h => h.zaj (i := 0) rfl) rfl) ?_
        refine o_pick [3, 4, 0, 1, 2, 5, 6] (by decide) rfl ?_
        refine bindE2 h (fun i143 l144 hx142 h => ?_) rfl
        refine o_e rfl (za8 2 Z Try.func59 N59 rfl rfl rfl (fun w P1 hF hB hS hT => impl_maker_squared.calls c10 1 A103 c104 l102.length l102 none 0 0 [] i105 y107.f1 hB hF (hT 3 _ rfl).row (hT 3 _ rfl).cap _ _ hx142)) (cur2 (fun A145 c146 => ?_))
        refine o_q rfl rfl (q_asg rfl) ?_
        refine o_end ?_
        refine za1 ?_
        refine c_seq ?_
        refine za0 ?_
        refine o_q rfl rfl (q_f F76_0 rfl) ?_
        refine o_q rfl rfl (q_ldb Y3 rfl (fun w h => h.zaj (i := 2) rfl) rfl) ?_
        refine o_q rfl rfl (q_gtr rfl rfl) ?_
        refine o_end ?_
        refine za1 ?_
        refine zb0 _ rfl (fun hb147 => ?_) (fun hb147 => ?_)
        · skip
          replace h := br_t hb147 h
          refine za0 ?_
          refine o_q rfl rfl (za2 rfl) ?_
          refine o_q rfl rfl (za2 rfl) ?_
          refine o_q rfl rfl (za2 rfl) ?_
          refine o_q rfl rfl (q_f F76_0 rfl) ?_
          refine o_q rfl rfl (q_ldb Y3 rfl (fun w h => h.zaj (i := 2) rfl) rfl) ?_
          refine zab h (fun i148 hp149 h => ?_) rfl
          refine o_q rfl rfl (q_look Try.underlying72 Try.underlying3 Try.underlying3 V3 rfl rfl hp149 Z GM) ?_
          refine bindE2 h (fun i151 l152 hx150 h => ?_) rfl
          refine o_e rfl (za8 2 Z Try.func57 N57 rfl rfl rfl (fun w P1 hF hB hS hT => impl_maker_multiply.calls c10 1 A145 c146 l144.length l144 none 0 0 [] i143 i148 hB hF (hT 3 _ rfl).row (hT 3 _ rfl).cap _ _ hx150)) (cur2 (fun A153 c154 => ?_))
          refine o_q rfl rfl (q_asg rfl) ?_
          refine o_end ?_
          refine zas ?_
          refine za1 ?_
          refine za0 ?_
          refine o_q rfl rfl (q_up rfl rfl (hr110.up hm111)) ?_
          refine o_q rfl rfl (za2 rfl) ?_
          refine o_end ?_
          refine zar ys108.length (ys108, l152, i151, i106 + 1, A153, c154) (by rw [← hk116]; exact Nat.lt_succ_self _) ⟨hr110.step, rfl, h⟩ ⟨rfl, rfl, trivial⟩ (fun w h => za6 [3, 4, 0, 1, 5, 6] (by decide) rfl w h) ?_
          repeat (first | exact za9 _ _ | refine zae rfl ?_ | refine zaa rfl ?_ | refine zaf rfl ?_)
        · skip
          replace h := br_f hb147 h
          refine zat ?_
          refine zas ?_
          refine za1 ?_
          refine za0 ?_
          refine o_q rfl rfl (q_up rfl rfl (hr110.up hm111)) ?_
          refine o_q rfl rfl (za2 rfl) ?_
          refine o_end ?_
          refine zar ys108.length (ys108, l144, i143, i106 + 1, A145, c146) (by rw [← hk116]; exact Nat.lt_succ_self _) ⟨hr110.step, rfl, h⟩ ⟨rfl, rfl, trivial⟩ (fun w h => za6 [3, 4, 0, 1, 5, 6] (by decide) rfl w h) ?_
          repeat (first | exact za9 _ _ | refine zae rfl ?_ | refine zaa rfl ?_ | refine zaf rfl ?_)

/-! ### loop.example/g01098/spec.l1In: function 107 -/
def spec_l1In.f (a0 : Int) (a1 : Int) (a2 : Int) : Option Bool := if a1 ≤ a0 then (some (decide (a0 ≤ a2))) else (some false)
set_option maxHeartbeats 600000 in
set_option maxRecDepth 100000 in
theorem spec_l1In.calls {w0 ws : World} {P0 : Nat → Prop} (a0 : Int) (a1 : Int) (a2 : Int) (Z : Below w0.heap.size w0 ws) (hF : Fr w0 ws P0 [] ws)  (r_1 : Bool) (h : spec_l1In.f a0 a1 a2 = some r_1) :
    Calls Try.prog 107 #[.int .i64 a0, .int .i64 a1, .int .i64 a2] ws (Post1 w0 ws P0 (fun (_ : Unit) => .bool r_1) (fun (_ : Unit) => [])) := by
  unfold spec_l1In.f at h
  refine enter Try.func107 rfl Try.ntmps107 rfl hF ?_
  refine c_seq ?_
  refine za0 ?_
  refine o_q rfl rfl (q_asg rfl) ?_
  refine o_end ?_
  refine za1 ?_
  refine c_seq ?_
  refine za0 ?_
  refine o_q rfl rfl (za2 rfl) ?_
  refine o_q rfl rfl (za2 rfl) ?_
  refine o_q rfl rfl (q_geq rfl rfl) ?_
  refine o_q rfl rfl (za2 rfl) ?_
  refine byB (decide (a1 ≤ a0)) (fun hb1 => ?_) (fun hb1 => ?_)
  · replace h := br_t hb1 h
    refine o_w (za5 rfl rfl rfl (congrArg Value.bool hb1)) rfl (za2 rfl) ?_
    refine o_w (za5 rfl rfl rfl (congrArg Value.bool hb1)) rfl (za2 rfl) ?_
    refine o_w (za5 rfl rfl rfl (congrArg Value.bool hb1)) rfl (q_leq rfl rfl) ?_
    refine o_q rfl rfl (zau true (congrArg Value.bool hb1) rfl) ?_
    refine o_q rfl rfl (q_asg rfl) ?_
    refine o_end ?_
    refine za1 ?_
    refine c_ret ?_
    have e0_ := Option.some.inj h; clear h
    subst e0_
    exact x_r1 () Try.results107 (zal rfl) rfl (fun w h => za6 [] (by decide) rfl w h)
  · replace h := br_f hb1 h
    refine @o_n _ _ _ _ _ _ _ _ _ _ _ 11 (za4 rfl rfl rfl (congrArg Value.bool hb1) rfl) (Eq.refl (some 11)) ?_
    refine @o_n _ _ _ _ _ _ _ _ _ _ _ 12 (za4 rfl rfl rfl (congrArg Value.bool hb1) rfl) (Eq.refl (some 12)) ?_
    refine @o_n _ _ _ _ _ _ _ _ _ _ _ 13 (za4 rfl rfl rfl (congrArg Value.bool hb1) rfl) (Eq.refl (some 13)) ?_
    refine o_q rfl rfl (zau false (congrArg Value.bool hb1) rfl) ?_
    refine o_q rfl rfl (q_asg rfl) ?_
    refine o_end ?_
    refine za1 ?_
    refine c_ret ?_
    have e0_ := Option.some.inj h; clear h
    subst e0_
    exact x_r1 () Try.results107 (zal rfl) rfl (fun w h => za6 [] (by decide) rfl w h)

/-! ### loop.example/g01098/spec.chNumber: function 49 -/
def spec_chNumber.f (a0 : Int) : Option Bool := (spec_l1In.f a0 1 1000000).bind fun b2 => some b2
set_option maxHeartbeats 600000 in
set_option maxRecDepth 100000 in
theorem spec_chNumber.calls {w0 ws : World} {P0 : Nat → Prop} (a0 : Int) (Z : Below w0.heap.size w0 ws) (hF : Fr w0 ws P0 [] ws)  (r_1 : Bool) (h : spec_chNumber.f a0 = some r_1) :
    Calls Try.prog 49 #[.int .i64 a0] ws (Post1 w0 ws P0 (fun (_ : Unit) => .bool r_1) (fun (_ : Unit) => [])) := by
  unfold spec_chNumber.f at h
  refine enter Try.func49 rfl Try.ntmps49 rfl hF ?_
  refine c_seq ?_
  refine za0 ?_
  refine o_q rfl rfl (q_asg rfl) ?_
  refine o_end ?_
  refine za1 ?_
  refine c_seq ?_
  refine za0 ?_
  refine o_q rfl rfl (za2 rfl) ?_
  refine zab h (fun b2 hx1 h => ?_) rfl
  refine o_e rfl (za8 0 Z Try.func107 N107 rfl rfl rfl (fun w P1 hF hB hS hT => spec_l1In.calls a0 1 1000000 hB hF _ hx1)) (fun _ => ?_)
  refine o_q rfl rfl (q_asg rfl) ?_
  refine o_end ?_
  refine za1 ?_
  refine c_ret ?_
  have e0_ := Option.some.inj h; clear h
  subst e0_
  exact x_r1 () Try.results49 (zal rfl) rfl (fun w h => za6 [] (by decide) rfl w h)

/-! ### loop.example/g01098/spec.meWide: function 50 -/
def spec_meWide.f (a0 : Int) : Option Bool := (spec_l1In.f a0 1 5).bind fun b2 => some b2
set_option maxHeartbeats 600000 in
set_option maxRecDepth 100000 in
theorem spec_meWide.calls {w0 ws : World} {P0 : Nat → Prop} (a0 : Int) (Z : Below w0.heap.size w0 ws) (hF : Fr w0 ws P0 [] ws)  (r_1 : Bool) (h : spec_meWide.f a0 = some r_1) :
    Calls Try.prog 50 #[.int .i64 a0] ws (Post1 w0 ws P0 (fun (_ : Unit) => .bool r_1) (fun (_ : Unit) => [])) := by
  unfold spec_meWide.f at h
  refine enter Try.func50 rfl Try.ntmps50 rfl hF ?_
  refine c_seq ?_
  refine za0 ?_
  refine o_q rfl rfl (q_asg rfl) ?_
  refine o_end ?_
  refine za1 ?_
  refine c_seq ?_
  refine za0 ?_
  refine o_q rfl rfl (za2 rfl) ?_
  refine zab h (fun b2 hx1 h => ?_) rfl
  refine o_e rfl (za8 0 Z Try.func107 N107 rfl rfl rfl (fun w P1 hF hB hS hT => spec_l1In.calls a0 1 5 hB hF _ hx1)) (fun _ => ?_)
  refine o_q rfl rfl (q_asg rfl) ?_
  refine o_end ?_
  refine za1 ?_
  refine c_ret ?_
  have e0_ := Option.some.inj h; clear h
  subst e0_
  exact x_r1 () Try.results50 (zal rfl) rfl (fun w h => za6 [] (by decide) rfl w h)

/-! ### loop.example/g01098/spec.meDigits: function 108 -/
def spec_meDigits.l0 (a1 : Int) : Nat → (List Int) → Int → Option (List Int)
  | 0, _, _ => none
  | k8 + 1, l2, i5 => if 0 < i5 then ((nz a1).bind fun _ => (ap l2 ([i5.tmod a1] : List Int)).bind fun l21 => (nz a1).bind fun _ => spec_meDigits.l0 a1 k8 l21 (w64 (i5.tdiv a1))) else (some l2)
def spec_meDigits.f (k : Nat) (a0 : Int) (a1 : Int) : Option (List Int) := (spec_meDigits.l0 a1 k ([] : List Int) a0).bind fun l2 => some l2
set_option maxHeartbeats 600000 in
set_option maxRecDepth 100000 in
theorem spec_meDigits.calls (k : Nat) {w0 ws : World} {P0 : Nat → Prop} (a0 : Int) (a1 : Int) (Z : Below w0.heap.size w0 ws) (hF : Fr w0 ws P0 [] ws)  (r_1 : List Int) (h : spec_meDigits.f k a0 a1 = some r_1) :
    Calls Try.prog 108 #[.int .i64 a0, .int .i64 a1] ws (Post1 w0 ws P0 (fun ((q_2, q_3) : (Option Addr) × Nat) => .slice q_2 r_1.length q_3) (fun ((q_2, q_3) : (Option Addr) × Nat) => [row (Kd.int .i64) 3 (.slice q_2 r_1.length q_3) r_1])) := by
  unfold spec_meDigits.f at h
  refine enter Try.func108 rfl Try.ntmps108 rfl hF ?_
  refine c_seq ?_
  refine za0 ?_
  refine o_q rfl rfl (q_asg rfl) ?_
  refine o_end ?_
  refine za1 ?_
  refine c_seq ?_
  refine za0 ?_
  refine o_q rfl rfl (q_asg rfl) ?_
  refine o_end ?_
  refine za1 ?_
  refine c_seq ?_
  refine zaq ?_
  refine c_nil (Kd.int .i64) 3 ?_
  refine zab h (fun o13 hl12 hR11 => ?_) rfl
  clear h
  refine zb3 (σ := (List Int) × Int × (Option Addr) × Nat) (fun k8 ((l2, i5, A3, c4) : (List Int) × Int × (Option Addr) × Nat) => spec_meDigits.l0 a1 k8 l2 i5 = some o13) [0, 5, 6, 7, 8, 9, 10, 11, 12, 13, 14, 15, 16] (fun ((l2, i5, A3, c4) : (List Int) × Int × (Option Addr) × Nat) => [(0, .int .i64 i5), (5, .slice A3 l2.length c4)]) (fun ((l2, i5, A3, c4) : (List Int) × Int × (Option Addr) × Nat) => [row (Kd.int .i64) 3 (.slice A3 l2.length c4) l2]) k (([] : List Int), a0, none, 0) hl12 ⟨rfl, rfl, trivial⟩ (fun w h => h) ?_
  refine natC (cur4 (fun l2 i5 A3 c4 => fun U14 hJ_ => ?_)) (fun k8 => (cur4 (fun l2 i5 A3 c4 => fun U14 hJ_ => ?_)))
  · skip
    replace hJ_ : spec_meDigits.l0 a1 0 l2 i5 = some o13 := hJ_
    rw [spec_meDigits.l0] at hJ_
    exact noneE hJ_
  · skip
    clear hl12
    have h := hJ_; clear hJ_
    replace h : spec_meDigits.l0 a1 (k8 + 1) l2 i5 = some o13 := h
    rw [spec_meDigits.l0] at h
    refine c_seq ?_
    refine c_seq ?_
    refine za0 ?_
    refine o_q rfl rfl (za2 rfl) ?_
    refine o_q rfl rfl (q_gtr rfl rfl) ?_
    refine o_end ?_
    refine za1 ?_
    refine zb0 _ rfl (fun hb16 => ?_) (fun hb16 => ?_)
    · skip
      replace h := br_t hb16 h
      refine zat ?_
      refine za1 ?_
      refine c_seq ?_
      refine zaq ?_
      refine za0 ?_
      refine o_q rfl rfl (za2 rfl) ?_
      refine o_q rfl rfl (za2 rfl) ?_
      refine o_q rfl rfl (za2 rfl) ?_
      refine zab h (fun _ hz17 h => ?_) rfl
      refine o_q rfl rfl (q_rem rfl rfl (nz_ne hz17)) ?_
      refine o_e rfl (e_lit (vs := [(0, .int .i64 (i5.tmod a1))]) (cs := [.int .i64 (i5.tmod a1)]) (Kd.int .i64) ([i5.tmod a1] : List Int) Try.underlying23 I3 (by decide) rfl (by decide) rfl rfl (fun _ _ => Kd.zah _)) (cur2 (fun A18 c19 => ?_))
      refine zab h (fun l21 ha22 h => ?_) rfl
      refine o_e rfl (e_app (i := 1) (j := 0) Try.underlying23 I3 rfl (by decide) (by decide) rfl rfl rfl rfl rfl ha22) (cur2 (fun A23 c24 => ?_))
      refine o_q rfl rfl (q_asg rfl) ?_
      refine o_end ?_
      refine zas ?_
      refine za1 ?_
      refine za0 ?_
      refine o_q rfl rfl (za2 rfl) ?_
      refine o_q rfl rfl (za2 rfl) ?_
      refine zab h (fun _ hz25 h => ?_) rfl
      refine o_q rfl rfl (q_quo64 rfl rfl (nz_ne hz25)) ?_
      refine o_q rfl rfl (q_asg rfl) ?_
      refine o_end ?_
      refine zar k8 (l21, w64 (i5.tdiv a1), A23, c24) (Nat.lt_succ_self _) h ⟨rfl, rfl, trivial⟩ (fun w h => za6 [1] (by decide) rfl w h) ?_
      repeat (first | exact za9 _ _ | refine zae rfl ?_ | refine zaa rfl ?_ | refine zaf rfl ?_)
    · skip
      replace h := br_f hb16 h
      refine c_exit ?_
      refine zac ?_
      refine zac ?_
      have e_ := Option.some.inj h; replace h := hR11; rw [← e_] at h; clear e_
      refine x_hit ?_
      refine za1 ?_
      refine c_seq ?_
      refine za0 ?_
      refine o_q rfl rfl (za2 rfl) ?_
      refine o_q rfl rfl (q_asg rfl) ?_
      refine o_end ?_
      refine za1 ?_
      refine c_ret ?_
      have e0_ := Option.some.inj h; clear h
      subst e0_
      exact x_r1 (A3, c4) Try.results108 (zal rfl) rfl (fun w h => za6 [0] (by decide) rfl w h)

/-! ### loop.example/g01098/spec.l1Most: function 88 -/
def spec_l1Most.f (a0 : Int) (a1 : Int) : Option Int := if a1 < a0 then (some a0) else (some a1)
set_option maxHeartbeats 600000 in
set_option maxRecDepth 100000 in
theorem spec_l1Most.calls {w0 ws : World} {P0 : Nat → Prop} (a0 : Int) (a1 : Int) (Z : Below w0.heap.size w0 ws) (hF : Fr w0 ws P0 [] ws)  (r_1 : Int) (h : spec_l1Most.f a0 a1 = some r_1) :
    Calls Try.prog 88 #[.int .i64 a0, .int .i64 a1] ws (Post1 w0 ws P0 (fun (_ : Unit) => .int .i64 r_1) (fun (_ : Unit) => [])) := by
  unfold spec_l1Most.f at h
  refine enter Try.func88 rfl Try.ntmps88 rfl hF ?_
  refine c_seq ?_
  refine za0 ?_
  refine o_q rfl rfl (q_asg rfl) ?_
  refine o_end ?_
  refine za1 ?_
  refine c_seq ?_
  refine c_seq ?_
  refine za0 ?_
  refine o_q rfl rfl (za2 rfl) ?_
  refine o_q rfl rfl (za2 rfl) ?_
  refine o_q rfl rfl (q_gtr rfl rfl) ?_
  refine o_end ?_
  refine za1 ?_
  refine zb0 _ rfl (fun hb1 => ?_) (fun hb1 => ?_)
  · skip
    replace h := br_t hb1 h
    refine c_seq ?_
    refine za0 ?_
    refine o_q rfl rfl (za2 rfl) ?_
    refine o_q rfl rfl (q_asg rfl) ?_
    refine o_end ?_
    refine za1 ?_
    refine c_ret ?_
    refine zai ?_
    have e0_ := Option.some.inj h; clear h
    subst e0_
    exact x_r1 () Try.results88 (zal rfl) rfl (fun w h => za6 [] (by decide) rfl w h)
  · skip
    replace h := br_f hb1 h
    refine zat ?_
    refine za1 ?_
    refine c_seq ?_
    refine za0 ?_
    refine o_q rfl rfl (za2 rfl) ?_
    refine o_q rfl rfl (q_asg rfl) ?_
    refine o_end ?_
    refine za1 ?_
    refine c_ret ?_
    have e0_ := Option.some.inj h; clear h
    subst e0_
    exact x_r1 () Try.results88 (zal rfl) rfl (fun w h => za6 [] (by decide) rfl w h)

/-! ### loop.example/g01098/spec.meSpans: function 73 -/
def spec_meSpans.l1 (l2 : List Int) : Nat → Int → Option Int
  | 0, _ => none
  | k48 + 1, i45 => (gt l2 i45).bind fun y57 => if y57 = 0 then (spec_meSpans.l1 l2 k48 (w64 (i45 + 1))) else (some i45)
def spec_meSpans.l0 (k : Nat) (a0 : Int) (a1 : Int) (l2 : List Int) : Nat → (List Int) → (List Int) → Int → Option ((List Int) × (List Int))
  | 0, _, _, _ => none
  | k16 + 1, l7, l10, i13 => if 0 ≤ i13 then ((gt l2 i13).bind fun y27 => if y27 = 0 then ((ap l7 ([0] : List Int)).bind fun l32 => (ap l10 ([1] : List Int)).bind fun l39 => spec_meSpans.l0 k a0 a1 l2 k16 l32 l39 (w64 (i13 - 1))) else ((spec_l1Most.f 0 (w64 (w64 (i13 - a1) + 1))).bind fun i44 => (spec_meSpans.l1 l2 k i44).bind fun i45 => (nn i45).bind fun _ => (nn (w64 (w64 (i13 - i45) + 1))).bind fun _ => (nz (IntKind.i64.wrap (1 * 2 ^ min (w64 (w64 (i13 - i45) + 1) : Int).toNat IntKind.i64.bits))).bind fun _ => (ap l7 ([(a0 / 2 ^ min (i45 : Int).toNat IntKind.i64.bits).tmod (IntKind.i64.wrap (1 * 2 ^ min (w64 (w64 (i13 - i45) + 1) : Int).toNat IntKind.i64.bits))] : List Int)).bind fun l65 => (ap l10 ([w64 (w64 (i13 - i45) + 1)] : List Int)).bind fun l72 => spec_meSpans.l0 k a0 a1 l2 k16 l65 l72 (w64 (i45 - 1)))) else (some (l7, l10))
def spec_meSpans.f (k : Nat) (a0 : Int) (a1 : Int) : Option ((List Int) × (List Int)) := (spec_meDigits.f k a0 2).bind fun l2 => (spec_meSpans.l0 k a0 a1 l2 k ([] : List Int) ([] : List Int) (w64 ((l2.length : Int) - 1))).bind fun (l7, l10) => some (l7, l10)
set_option maxHeartbeats 600000 in
set_option maxRecDepth 100000 in
theorem spec_meSpans.calls (k : Nat) {w0 ws : World} {P0 : Nat → Prop} (a0 : Int) (a1 : Int) (Z : Below w0.heap.size w0 ws) (hF : Fr w0 ws P0 [] ws)  (r_1 : List Int) (r_4 : List Int) (h : spec_meSpans.f k a0 a1 = some (r_1, r_4)) :
    Calls Try.prog 73 #[.int .i64 a0, .int .i64 a1] ws (Post1 w0 ws P0 (fun ((q_2, q_3, q_5, q_6) : (Option Addr) × Nat × (Option Addr) × Nat) => .tuple #[.slice q_2 r_1.length q_3, .slice q_5 r_4.length q_6]) (fun ((q_2, q_3, q_5, q_6) : (Option Addr) × Nat × (Option Addr) × Nat) => [row (Kd.int .i64) 3 (.slice q_2 r_1.length q_3) r_1, row (Kd.int .i64) 3 (.slice q_5 r_4.length q_6) r_4])) := by
  unfold spec_meSpans.f at h
  refine enter Try.func73 rfl Try.ntmps73 rfl hF ?_
  refine c_seq ?_
  refine za0 ?_
  refine o_q rfl rfl (q_asg rfl) ?_
  refine o_q rfl rfl (q_asg rfl) ?_
  refine o_end ?_
  refine za1 ?_
  refine c_seq ?_
  refine za0 ?_
  refine o_q rfl rfl (za2 rfl) ?_
  refine zab h (fun l2 hx1 h => ?_) rfl
  refine o_e rfl (za8 0 Z Try.func108 N108 rfl rfl rfl (fun w P1 hF hB hS hT => spec_meDigits.calls k a0 2 hB hF _ hx1)) (cur2 (fun A3 c4 => ?_))
  refine o_q rfl rfl (q_asg rfl) ?_
  refine o_end ?_
  refine za1 ?_
  refine c_seq ?_
  refine za0 ?_
  refine o_q rfl rfl (q_asg rfl) ?_
  refine o_q rfl rfl (q_asg rfl) ?_
  refine o_end ?_
  refine za1 ?_
  refine c_seq ?_
  refine c_seq ?_
  refine za0 ?_
  refine o_q rfl rfl (za2 rfl) ?_
  refine o_q rfl rfl (q_len Try.underlying23 rfl) ?_
  refine o_q rfl rfl (zb5 rfl rfl) ?_
  refine o_q rfl rfl (q_asg rfl) ?_
  refine o_end ?_
  refine za1 ?_
  refine zaq ?_
  refine c_nil (Kd.int .i64) 3 ?_
  refine c_nil (Kd.int .i64) 3 ?_
  refine zab h (fun o21 hl20 hR19 => ?_) rfl
  clear h
  refine zb3 (σ := (List Int) × (List Int) × Int × (Option Addr) × Nat × (Option Addr) × Nat) (fun k16 ((l7, l10, i13, A8, c9, A11, c12) : (List Int) × (List Int) × Int × (Option Addr) × Nat × (Option Addr) × Nat) => spec_meSpans.l0 k a0 a1 l2 k16 l7 l10 i13 = some o21) [7, 8, 9, 10, 16, 17, 18, 19, 20, 21, 22, 23, 24, 25, 26, 27, 28, 29, 30, 31, 32, 33, 34, 35, 36, 37, 38, 39, 40, 41, 42, 43, 44, 45, 46, 47, 48, 49, 50, 51, 52, 53, 54, 55, 56, 57, 58, 59, 60, 61, 62, 63] (fun ((l7, l10, i13, A8, c9, A11, c12) : (List Int) × (List Int) × Int × (Option Addr) × Nat × (Option Addr) × Nat) => [(7, .slice A8 l7.length c9), (8, .slice A11 l10.length c12), (9, .int .i64 i13)]) (fun ((l7, l10, i13, A8, c9, A11, c12) : (List Int) × (List Int) × Int × (Option Addr) × Nat × (Option Addr) × Nat) => [row (Kd.int .i64) 3 (.slice A11 l10.length c12) l10, row (Kd.int .i64) 3 (.slice A8 l7.length c9) l7, row (Kd.int .i64) 3 (.slice A3 l2.length c4) l2]) k (([] : List Int), ([] : List Int), w64 ((l2.length : Int) - 1), none, 0, none, 0) hl20 ⟨rfl, rfl, rfl, trivial⟩ (fun w h => h) ?_
  refine natC (cur7 (fun l7 l10 i13 A8 c9 A11 c12 => fun U22 hJ_ => ?_)) (fun k16 => (cur7 (fun l7 l10 i13 A8 c9 A11 c12 => fun U22 hJ_ => ?_)))
  · skip
    replace hJ_ : spec_meSpans.l0 k a0 a1 l2 0 l7 l10 i13 = some o21 := hJ_
    rw [spec_meSpans.l0] at hJ_
    exact noneE hJ_
  · skip
    clear hl20
    have h := hJ_; clear hJ_
    replace h : spec_meSpans.l0 k a0 a1 l2 (k16 + 1) l7 l10 i13 = some o21 := h
    rw [spec_meSpans.l0] at h
    refine c_seq ?_
    refine c_seq ?_
    refine za0 ?_
    refine o_q rfl rfl (za2 rfl) ?_
    refine o_q rfl rfl (q_geq rfl rfl) ?_
    refine o_end ?_
    refine za1 ?_
    refine zb0 _ rfl (fun hb24 => ?_) (fun hb24 => ?_)
    · skip
      replace h := br_t hb24 h
      refine zat ?_
      refine za1 ?_
      refine zaq ?_
      refine c_seq ?_
      refine c_seq ?_
      refine za0 ?_
      refine o_q rfl rfl (za2 rfl) ?_
      refine o_q rfl rfl (za2 rfl) ?_
      refine zb4 (p := Sh A3 l2.length l2.length) (fun w h => f_sh (dk := (Kd.int .i64)) h (fun w h => h.zaw (i := 2) rfl)) (fun hq25 => ?_)
      refine zab h (fun y27 hg26 h => ?_) rfl
      refine o_q rfl rfl (q_ix Try.underlying23 Z3 rfl rfl hq25 hg26) ?_
      refine o_q rfl rfl (q_lde (off := 0) Y3 rfl rfl (fun w h => h.zaw (i := 2) rfl) hg26 (fun _ _ h => h) rfl) ?_
      refine o_q rfl rfl (q_eql rfl rfl) ?_
      refine o_end ?_
      refine za1 ?_
      refine zb0 _ rfl (fun hb28 => ?_) (fun hb28 => ?_)
      · skip
        replace h := br_t hb28 h
        refine c_seq ?_
        refine za0 ?_
        refine o_q rfl rfl (za2 rfl) ?_
        refine o_e rfl (e_lit (vs := [(0, .int .i64 0)]) (cs := [.int .i64 0]) (Kd.int .i64) ([0] : List Int) Try.underlying23 I3 (by decide) rfl (by decide) rfl rfl (fun _ _ => Kd.zah _)) (cur2 (fun A29 c30 => ?_))
        refine zab h (fun l32 ha33 h => ?_) rfl
        refine o_e rfl (e_app (i := 2) (j := 0) Try.underlying23 I3 rfl (by decide) (by decide) rfl rfl rfl rfl rfl ha33) (cur2 (fun A34 c35 => ?_))
        refine o_q rfl rfl (q_asg rfl) ?_
        refine o_end ?_
        refine za1 ?_
        refine c_seq ?_
        refine za0 ?_
        refine o_q rfl rfl (za2 rfl) ?_
        refine o_e rfl (e_lit (vs := [(0, .int .i64 1)]) (cs := [.int .i64 1]) (Kd.int .i64) ([1] : List Int) Try.underlying23 I3 (by decide) rfl (by decide) rfl rfl (fun _ _ => Kd.zah _)) (cur2 (fun A36 c37 => ?_))
        refine zab h (fun l39 ha40 h => ?_) rfl
        refine o_e rfl (e_app (i := 2) (j := 0) Try.underlying23 I3 rfl (by decide) (by decide) rfl rfl rfl rfl rfl ha40) (cur2 (fun A41 c42 => ?_))
        refine o_q rfl rfl (q_asg rfl) ?_
        refine o_end ?_
        refine za1 ?_
        refine c_seq ?_
        refine za0 ?_
        refine o_q rfl rfl (za2 rfl) ?_
        refine o_q rfl rfl (zb5 rfl rfl) ?_
        refine o_q rfl rfl (q_asg rfl) ?_
        refine o_end ?_
        refine za1 ?_
        refine c_exit ?_
        refine zac ?_
        refine x_hit ?_
        refine zar k16 (l32, l39, w64 (i13 - 1), A34, c35, A41, c42) (Nat.lt_succ_self _) h ⟨rfl, rfl, rfl, trivial⟩ (fun w h => za6 [2, 3, 4] (by decide) rfl w h) ?_
        repeat (first | exact za9 _ _ | refine zae rfl ?_ | refine zaa rfl ?_ | refine zaf rfl ?_)
      · skip
        replace h := br_f hb28 h
        refine zat ?_
        refine za1 ?_
        refine c_seq ?_
        refine za0 ?_
        refine o_q rfl rfl (za2 rfl) ?_
        refine o_q rfl rfl (za2 rfl) ?_
        refine o_q rfl rfl (zb5 rfl rfl) ?_
        refine o_q rfl rfl (zb7 rfl rfl) ?_
        refine zab h (fun i44 hx43 h => ?_) rfl
        refine o_e rfl (za8 0 Z Try.func88 N88 rfl rfl rfl (fun w P1 hF hB hS hT => spec_l1Most.calls 0 (w64 (w64 (i13 - a1) + 1)) hB hF _ hx43)) (fun _ => ?_)
        refine o_q rfl rfl (q_asg rfl) ?_
        refine o_end ?_
        refine za1 ?_
        refine c_seq ?_
        refine zaq ?_
        refine zab h (fun o53 hl52 hR51 => ?_) rfl
        clear h
        refine zb3 (σ := Int) (fun k48 (i45 : Int) => spec_meSpans.l1 l2 k48 i45 = some o53) [10, 36, 37, 38, 39, 40, 41, 42] (fun (i45 : Int) => [(10, .int .i64 i45)]) (fun (i45 : Int) => [row (Kd.int .i64) 3 (.slice A11 l10.length c12) l10, row (Kd.int .i64) 3 (.slice A8 l7.length c9) l7, row (Kd.int .i64) 3 (.slice A3 l2.length c4) l2]) k i44 hl52 ⟨rfl, trivial⟩ (fun w h => h) ?_
        refine natC (fun i45 => fun U54 hJ_ => ?_) (fun k48 => (fun i45 => fun U54 hJ_ => ?_))
        · skip
          replace hJ_ : spec_meSpans.l1 l2 0 i45 = some o53 := hJ_
          rw [spec_meSpans.l1] at hJ_
          exact noneE hJ_
        · skip
          clear hl52
          have h := hJ_; clear hJ_
          replace h : spec_meSpans.l1 l2 (k48 + 1) i45 = some o53 := h
          rw [spec_meSpans.l1] at h
          refine c_seq ?_
          refine c_seq ?_
          refine za0 ?_
          refine o_q rfl rfl (za2 rfl) ?_
          refine o_q rfl rfl (za2 rfl) ?_
          refine zab h (fun y57 hg56 h => ?_) rfl
          refine o_q rfl rfl (q_ix Try.underlying23 Z3 rfl rfl hq25 hg56) ?_
          refine o_q rfl rfl (q_lde (off := 0) Y3 rfl rfl (fun w h => h.zaw (i := 2) rfl) hg56 (fun _ _ h => h) rfl) ?_
          refine o_q rfl rfl (q_eql rfl rfl) ?_
          refine o_end ?_
          refine za1 ?_
          refine zb0 _ rfl (fun hb58 => ?_) (fun hb58 => ?_)
          · skip
            replace h := br_t hb58 h
            refine zat ?_
            refine za1 ?_
            refine zaq ?_
            refine za0 ?_
            refine o_q rfl rfl (za2 rfl) ?_
            refine o_q rfl rfl (zb7 rfl rfl) ?_
            refine o_q rfl rfl (q_asg rfl) ?_
            refine o_end ?_
            refine zas ?_
            refine zar k48 (w64 (i45 + 1)) (Nat.lt_succ_self _) h ⟨rfl, trivial⟩ (fun w h => za6 [0, 1, 2] (by decide) rfl w h) ?_
            repeat (first | exact za9 _ _ | refine zae rfl ?_ | refine zaa rfl ?_ | refine zaf rfl ?_)
          · skip
            replace h := br_f hb58 h
            refine c_exit ?_
            refine zac ?_
            refine zac ?_
            have e_ := Option.some.inj h; replace h := hR51; rw [← e_] at h; clear e_
            refine x_hit ?_
            refine za1 ?_
            refine c_seq ?_
            refine a_startS (ds := []) [some 0, none, some 2] MO rfl ?_
            refine za7 0 rfl rfl rfl (by kernel_rfl) (fun _ _ _ h => h) (za2 rfl) ?_
            refine za7 1 rfl rfl rfl (by kernel_rfl) (fun _ _ _ h => h) (za2 rfl) ?_
            refine za7 2 rfl rfl rfl (by kernel_rfl) (fun _ _ _ h => h) (za2 rfl) ?_
            refine zab h (fun _ hz59 h => ?_) rfl
            refine za7 3 rfl rfl rfl (by kernel_rfl) (fun _ _ _ h => h) (q_shr rfl rfl (nn_le hz59)) ?_
            refine za7 4 rfl rfl rfl (by kernel_rfl) (fun _ _ _ h => h) (za2 rfl) ?_
            refine za7 5 rfl rfl rfl (by kernel_rfl) (fun _ _ _ h => h) (za2 rfl) ?_
            refine za7 6 rfl rfl rfl (by kernel_rfl) (fun _ _ _ h => h) (zb5 rfl rfl) ?_
            refine za7 7 rfl rfl rfl (by kernel_rfl) (fun _ _ _ h => h) (zb7 rfl rfl) ?_
            refine zab h (fun _ hz60 h => ?_) rfl
            refine za7 8 rfl rfl rfl (by kernel_rfl) (fun _ _ _ h => h) (q_shl rfl rfl (nn_le hz60)) ?_
            refine zab h (fun _ hz61 h => ?_) rfl
            refine za7 9 rfl rfl rfl (by kernel_rfl) (fun _ _ _ h => h) (q_rem rfl rfl (nz_ne hz61)) ?_
            refine a_one 10 rfl rfl (by kernel_rfl) rfl (e_lit (vs := [(0, .int .i64 ((a0 / 2 ^ min (i45 : Int).toNat IntKind.i64.bits).tmod (IntKind.i64.wrap (1 * 2 ^ min (w64 (w64 (i13 - i45) + 1) : Int).toNat IntKind.i64.bits))))]) (cs := [.int .i64 ((a0 / 2 ^ min (i45 : Int).toNat IntKind.i64.bits).tmod (IntKind.i64.wrap (1 * 2 ^ min (w64 (w64 (i13 - i45) + 1) : Int).toNat IntKind.i64.bits)))]) (Kd.int .i64) ([(a0 / 2 ^ min (i45 : Int).toNat IntKind.i64.bits).tmod (IntKind.i64.wrap (1 * 2 ^ min (w64 (w64 (i13 - i45) + 1) : Int).toNat IntKind.i64.bits))] : List Int) Try.underlying23 I3 (by decide) rfl (by decide) rfl rfl (fun _ _ => Kd.zah _)) (fun s w h => za3 [some 1, none, some 3] (by decide) w h rfl) (cur2 (fun A62 c63 => ?_))
            refine zab h (fun l65 ha66 h => ?_) rfl
            refine a_one 11 rfl rfl (by kernel_rfl) rfl (e_app (i := 2) (j := 0) Try.underlying23 I3 rfl (by decide) (by decide) rfl rfl rfl rfl rfl ha66) (fun s w h => za3 [some 1, none, some 3] (by decide) w h rfl) (cur2 (fun A67 c68 => ?_))
            refine za7 12 rfl rfl rfl (by kernel_rfl) (fun _ _ _ h => h) (q_asg rfl) ?_
            refine zan (by kernel_rfl) ?_
            refine za1 ?_
            refine c_seq ?_
            refine za0 ?_
            refine o_q rfl rfl (za2 rfl) ?_
            refine o_q rfl rfl (za2 rfl) ?_
            refine o_q rfl rfl (za2 rfl) ?_
            refine o_q rfl rfl (zb5 rfl rfl) ?_
            refine o_q rfl rfl (zb7 rfl rfl) ?_
            refine o_e rfl (e_lit (vs := [(0, .int .i64 (w64 (w64 (i13 - i45) + 1)))]) (cs := [.int .i64 (w64 (w64 (i13 - i45) + 1))]) (Kd.int .i64) ([w64 (w64 (i13 - i45) + 1)] : List Int) Try.underlying23 I3 (by decide) rfl (by decide) rfl rfl (fun _ _ => Kd.zah _)) (cur2 (fun A69 c70 => ?_))
            refine zab h (fun l72 ha73 h => ?_) rfl
            refine o_e rfl (e_app (i := 2) (j := 0) Try.underlying23 I3 rfl (by decide) (by decide) rfl rfl rfl rfl rfl ha73) (cur2 (fun A74 c75 => ?_))
            refine o_q rfl rfl (q_asg rfl) ?_
            refine o_end ?_
            refine za1 ?_
            refine za0 ?_
            refine o_q rfl rfl (za2 rfl) ?_
            refine o_q rfl rfl (zb5 rfl rfl) ?_
            refine o_q rfl rfl (q_asg rfl) ?_
            refine o_end ?_
            refine zas ?_
            refine zar k16 (l65, l72, w64 (i45 - 1), A67, c68, A74, c75) (Nat.lt_succ_self _) h ⟨rfl, rfl, rfl, trivial⟩ (fun w h => za6 [2, 3, 4] (by decide) rfl w h) ?_
            repeat (first | exact za9 _ _ | refine zae rfl ?_ | refine zaa rfl ?_ | refine zaf rfl ?_)
    · skip
      replace h := br_f hb24 h
      refine c_exit ?_
      refine zac ?_
      refine zac ?_
      have e_ := Option.some.inj h; replace h := hR19; rw [← e_] at h; clear e_
      refine x_hit ?_
      refine za1 ?_
      refine c_seq ?_
      refine za0 ?_
      refine o_q rfl rfl (za2 rfl) ?_
      refine o_q rfl rfl (za2 rfl) ?_
      refine o_q rfl rfl (q_asg rfl) ?_
      refine o_q rfl rfl (q_asg rfl) ?_
      refine o_end ?_
      refine za1 ?_
      refine c_ret ?_
      have e0_ := Option.some.inj h; clear h
      have d0_ := (Prod.mk.inj e0_).1; have e1_ := (Prod.mk.inj e0_).2; clear e0_; subst d0_
      subst e1_
      exact x_r2 (A8, c9, A11, c12) Try.results73 (zal rfl) (zal rfl) rfl (fun w h => za6 [1, 0] (by decide) rfl w h)

/-! ### loop.example/g01098/spec.meGreatest: function 109 -/
def spec_meGreatest.l0 : (List Int) → Int → Int → Option Int
  | [], i1, i2 => some i1
  | y3 :: ys4, i1, i2 => (spec_l1Most.f i1 y3).bind fun i15 => spec_meGreatest.l0 ys4 i15 (i2 + 1)
def spec_meGreatest.f (l0 : List Int) : Option Int := (spec_meGreatest.l0 l0 0 0).bind fun i1 => some i1
set_option maxHeartbeats 600000 in
set_option maxRecDepth 100000 in
theorem spec_meGreatest.calls {w0 ws : World} {P0 : Nat → Prop} (A0 : Option Addr) (c0 : Nat) (n0 : Nat) (l0 : List Int) (Z : Below w0.heap.size w0 ws) (hF : Fr w0 ws P0 [] ws) (R0 : Stable ws P0 (fun w => Kd.C (Kd.int .i64) w A0 n0 l0)) (hc0 : n0 ≤ c0) (r_1 : Int) (h : spec_meGreatest.f l0 = some r_1) :
    Calls Try.prog 109 #[.slice A0 n0 c0] ws (Post1 w0 ws P0 (fun (_ : Unit) => .int .i64 r_1) (fun (_ : Unit) => [])) := by
  unfold spec_meGreatest.f at h
  obtain rfl := (R0 ws (KeptB.refl _ _)).1
  refine enter Try.func109 rfl Try.ntmps109 rfl hF ?_
  refine c_seq ?_
  refine za0 ?_
  refine o_q rfl rfl (q_asg rfl) ?_
  refine o_end ?_
  refine za1 ?_
  refine c_seq ?_
  refine za0 ?_
  refine o_q rfl rfl (q_asg rfl) ?_
  refine o_end ?_
  refine za1 ?_
  refine c_seq ?_
  refine c_seq ?_
  refine za0 ?_
  refine o_q rfl rfl (za2 rfl) ?_
  refine o_q rfl rfl (q_len Try.underlying23 rfl) ?_
  refine o_q rfl rfl (za2 rfl) ?_
  refine o_end ?_
  refine za1 ?_
  refine zaq ?_
  refine zab h (fun o10 hl9 hR8 => ?_) rfl
  clear h
  refine c_fact (p := l0.length ≤ 9223372036854775807) (fun w h => (R0.now Z h).2.1) (fun hm7 => ?_)
  refine zb3 (σ := (List Int) × Int × Int) (fun k5 ((ys4, i1, i2) : (List Int) × Int × Int) => Rg l0 i2 ys4 ∧ ys4.length = k5 ∧ spec_meGreatest.l0 ys4 i1 i2 = some o10) [3, 5, 8, 9, 10, 11, 12, 13, 14, 15] (fun ((ys4, i1, i2) : (List Int) × Int × Int) => [(3, .int .i64 i1), (8, .int .i64 i2)]) (fun ((ys4, i1, i2) : (List Int) × Int × Int) => []) l0.length (l0, 0, 0) ⟨Rg.start _, rfl, hl9⟩ ⟨rfl, rfl, trivial⟩ (fun w h => h) ?_
  refine fun k5 => cur3 (listC (fun i1 i2 U11 hJ_ => ?_) (fun y3 ys4 i1 i2 U11 hJ_ => ?_))
  · skip
    clear hl9
    have hr6 := hJ_.1; have hk12 := hJ_.2.1; have h := hJ_.2.2; clear hJ_
    replace h : spec_meGreatest.l0 [] i1 i2 = some o10 := h
    rw [spec_meGreatest.l0] at h
    refine c_seq ?_
    refine za0 ?_
    refine o_q rfl rfl (q_lss rfl rfl) ?_
    refine o_end ?_
    refine za1 ?_
    refine c_seq ?_
    refine c_false (congrArg Value.bool hr6.ge) ?_
    refine c_exit ?_
    refine zac ?_
    refine zac ?_
    have e_ := Option.some.inj h; replace h := hR8; rw [← e_] at h; clear e_
    refine x_hit ?_
    refine za1 ?_
    refine c_seq ?_
    refine za0 ?_
    refine o_q rfl rfl (za2 rfl) ?_
    refine o_q rfl rfl (q_asg rfl) ?_
    refine o_end ?_
    refine za1 ?_
    refine c_ret ?_
    have e0_ := Option.some.inj h; clear h
    subst e0_
    exact x_r1 () Try.results109 (zal rfl) rfl (fun w h => za6 [] (by decide) rfl w h)
  · skip
    clear hl9
    have hr6 := hJ_.1; have hk12 := hJ_.2.1; have h := hJ_.2.2; clear hJ_
    replace h : spec_meGreatest.l0 (y3 :: ys4) i1 i2 = some o10 := h
    rw [spec_meGreatest.l0] at h
    refine c_seq ?_
    refine za0 ?_
    refine o_q rfl rfl (q_lss rfl rfl) ?_
    refine o_end ?_
    refine za1 ?_
    refine c_seq ?_
    refine c_true (congrArg Value.bool hr6.lt) ?_
    refine zat ?_
    refine za1 ?_
    refine c_seq ?_
    refine zaq ?_
    refine c_seq ?_
    refine za0 ?_
    refine zb4 (p := Sh A0 l0.length l0.length) (fun w h => f_sh (dk := (Kd.int .i64)) h (fun w h => R0.now Z h)) (fun hq13 => ?_)
    refine o_q rfl rfl (q_ix Try.underlying23 Z3 rfl rfl hq13 hr6.get) ?_
    refine o_q rfl rfl (q_lde (off := 0) Y3 rfl rfl (fun w h => R0.now Z h) hr6.get (fun _ _ h => h) rfl) ?_
    refine o_q rfl rfl (q_asg rfl) ?_
    refine o_end ?_
    refine za1 ?_
    refine za0 ?_
    refine o_q rfl rfl (za2 rfl) ?_
    refine o_q rfl rfl (za2 rfl) ?_
    refine zab h (fun i15 hx14 h => ?_) rfl
    refine o_e rfl (za8 0 Z Try.func88 N88 rfl rfl rfl (fun w P1 hF hB hS hT => spec_l1Most.calls i1 y3 hB hF _ hx14)) (fun _ => ?_)
    refine o_q rfl rfl (q_asg rfl) ?_
    refine o_end ?_
    refine zas ?_
    refine za1 ?_
    refine za0 ?_
    refine o_q rfl rfl (q_up rfl rfl (hr6.up hm7)) ?_
    refine o_q rfl rfl (za2 rfl) ?_
    refine o_end ?_
    refine zar ys4.length (ys4, i15, i2 + 1) (by rw [← hk12]; exact Nat.lt_succ_self _) ⟨hr6.step, rfl, h⟩ ⟨rfl, rfl, trivial⟩ (fun w h => za6 [] (by decide) rfl w h) ?_
    repeat (first | exact za9 _ _ | refine zae rfl ?_ | refine zaa rfl ?_ | refine zaf rfl ?_)

/-! ### loop.example/g01098/spec.l1Least: function 89 -/
def spec_l1Least.f (a0 : Int) (a1 : Int) : Option Int := if a0 < a1 then (some a0) else (some a1)
set_option maxHeartbeats 600000 in
set_option maxRecDepth 100000 in
theorem spec_l1Least.calls {w0 ws : World} {P0 : Nat → Prop} (a0 : Int) (a1 : Int) (Z : Below w0.heap.size w0 ws) (hF : Fr w0 ws P0 [] ws)  (r_1 : Int) (h : spec_l1Least.f a0 a1 = some r_1) :
    Calls Try.prog 89 #[.int .i64 a0, .int .i64 a1] ws (Post1 w0 ws P0 (fun (_ : Unit) => .int .i64 r_1) (fun (_ : Unit) => [])) := by
  unfold spec_l1Least.f at h
  refine enter Try.func89 rfl Try.ntmps89 rfl hF ?_
  refine c_seq ?_
  refine za0 ?_
  refine o_q rfl rfl (q_asg rfl) ?_
  refine o_end ?_
  refine za1 ?_
  refine c_seq ?_
  refine c_seq ?_
  refine za0 ?_
  refine o_q rfl rfl (za2 rfl) ?_
  refine o_q rfl rfl (za2 rfl) ?_
  refine o_q rfl rfl (q_lss rfl rfl) ?_
  refine o_end ?_
  refine za1 ?_
  refine zb0 _ rfl (fun hb1 => ?_) (fun hb1 => ?_)
  · skip
    replace h := br_t hb1 h
    refine c_seq ?_
    refine za0 ?_
    refine o_q rfl rfl (za2 rfl) ?_
    refine o_q rfl rfl (q_asg rfl) ?_
    refine o_end ?_
    refine za1 ?_
    refine c_ret ?_
    refine zai ?_
    have e0_ := Option.some.inj h; clear h
    subst e0_
    exact x_r1 () Try.results89 (zal rfl) rfl (fun w h => za6 [] (by decide) rfl w h)
  · skip
    replace h := br_f hb1 h
    refine zat ?_
    refine za1 ?_
    refine c_seq ?_
    refine za0 ?_
    refine o_q rfl rfl (za2 rfl) ?_
    refine o_q rfl rfl (q_asg rfl) ?_
    refine o_end ?_
    refine za1 ?_
    refine c_ret ?_
    have e0_ := Option.some.inj h; clear h
    subst e0_
    exact x_r1 () Try.results89 (zal rfl) rfl (fun w h => za6 [] (by decide) rfl w h)

/-! ### loop.example/g01098/spec.plStep: function 146 -/
def spec_plStep.f (a0 : Int) (a1 : Int) : Option SStep := (spec_l1Least.f a0 a1).bind fun i4 => (spec_l1Most.f a0 a1).bind fun i6 => some (⟨i4, i6⟩ : SStep)
set_option maxHeartbeats 600000 in
set_option maxRecDepth 100000 in
theorem spec_plStep.calls {w0 ws : World} {P0 : Nat → Prop} (a0 : Int) (a1 : Int) (Z : Below w0.heap.size w0 ws) (hF : Fr w0 ws P0 [] ws)  (r_1 : SStep) (h : spec_plStep.f a0 a1 = some r_1) :
    Calls Try.prog 146 #[.int .i64 a0, .int .i64 a1] ws (Post1 w0 ws P0 (fun (_ : Unit) => .agg #[.int .i64 r_1.f0, .int .i64 r_1.f1]) (fun (_ : Unit) => [])) := by
  unfold spec_plStep.f at h
  refine enter Try.func146 rfl Try.ntmps146 rfl hF ?_
  refine c_seq ?_
  refine za0 ?_
  refine o_e rfl (zam V107 rfl) (fun g1 => ?_)
  refine o_end ?_
  refine za1 ?_
  refine c_seq ?_
  refine za0 ?_
  refine o_q rfl rfl (za2 rfl) ?_
  refine o_q rfl rfl (za2 rfl) ?_
  refine zab h (fun i4 hx3 h => ?_) rfl
  refine o_e rfl (za8 0 Z Try.func89 N89 rfl rfl rfl (fun w P1 hF hB hS hT => spec_l1Least.calls a0 a1 hB hF _ hx3)) (fun _ => ?_)
  refine o_q rfl rfl (za2 rfl) ?_
  refine o_q rfl rfl (za2 rfl) ?_
  refine zab h (fun i6 hx5 h => ?_) rfl
  refine o_e rfl (za8 0 Z Try.func88 N88 rfl rfl rfl (fun w P1 hF hB hS hT => spec_l1Most.calls a0 a1 hB hF _ hx5)) (fun _ => ?_)
  refine o_q rfl rfl (q_build (vs := [(0, .int .i64 i4), (1, .int .i64 i6)]) (cs := [.int .i64 i4, .int .i64 i6]) rfl rfl) ?_
  refine o_e rfl (zav (i := 0) rfl rfl rfl Z107 rfl rfl) (fun _ => ?_)
  refine o_end ?_
  refine za1 ?_
  refine c_ret ?_
  have e0_ := Option.some.inj h; clear h
  subst e0_
  exact x_r1 () Try.results146 (rv_cell rfl G107 Z107 (fun w h => h.zaj (i := 0) rfl) rfl) rfl (fun w h => za6 [] (by decide) rfl w h)

/-! ### loop.example/g01098/spec.meTimes: function 110 -/
def spec_meTimes.f (a0_0 : Int) (l0_1 : List SStep) (l0_2 : List Int) (a1 : Int) (a2 : Int) : Option (List SStep) := ((ap ([] : List SStep) l0_1).bind fun l1216 => (spec_plStep.f a1 a2).bind fun z1397 => (ap l1216 ([z1397] : List SStep)).bind fun l1516 => some l1516).bind fun l907 => some l907
set_option maxHeartbeats 600000 in
set_option maxRecDepth 100000 in
theorem spec_meTimes.calls {w0 ws : World} {P0 : Nat → Prop} (a0_0 : Int) (A0_1 : Option Addr) (c0_1 : Nat) (n0_1 : Nat) (l0_1 : List SStep) (A0_2 : Option Addr) (c0_2 : Nat) (n0_2 : Nat) (l0_2 : List Int) (a1 : Int) (a2 : Int) (Z : Below w0.heap.size w0 ws) (hF : Fr w0 ws P0 [] ws) (R0_1 : Stable ws P0 (fun w => Kd.C kStep w A0_1 n0_1 l0_1)) (hc0_1 : n0_1 ≤ c0_1) (R0_2 : Stable ws P0 (fun w => Kd.C (Kd.int .i64) w A0_2 n0_2 l0_2)) (hc0_2 : n0_2 ≤ c0_2) (r_1 : List SStep) (h : spec_meTimes.f a0_0 l0_1 l0_2 a1 a2 = some r_1) :
    Calls Try.prog 110 #[.agg #[.int .i64 a0_0, .slice A0_1 n0_1 c0_1, .slice A0_2 n0_2 c0_2], .int .i64 a1, .int .i64 a2] ws (Post1 w0 ws P0 (fun ((q_2, q_3) : (Option Addr) × Nat) => .tuple #[.agg #[.int .i64 a0_0, .slice q_2 r_1.length q_3, .slice none 0 0], .int .i64 (w64 (a0_0 + (l0_1.length : Int)))]) (fun ((q_2, q_3) : (Option Addr) × Nat) => [row kStep 107 (.slice q_2 r_1.length q_3) r_1, row (Kd.int .i64) 3 (.slice none 0 0) []])) := by
  unfold spec_meTimes.f at h
  obtain rfl := (R0_1 ws (KeptB.refl _ _)).1
  obtain rfl := (R0_2 ws (KeptB.refl _ _)).1
  refine enter Try.func110 rfl Try.ntmps110 rfl hF ?_
  refine c_seq ?_
  refine za0 ?_
  refine o_e rfl (e_box rfl) (fun g1 => ?_)
  refine o_e rfl (zam V25 rfl) (fun g3 => ?_)
  refine o_q rfl rfl (q_asg rfl) ?_
  refine o_end ?_
  refine za1 ?_
  refine zab h (fun o910 hl911 hR912 => ?_) rfl
  clear h
  refine c_cutJ (σ := (List SStep) × Nat × (Option Addr) × Nat) (fun (l907, g906, A908, c909) => some l907 = some o910) [8, 9, 10, 11, 12, 13, 14, 15, 16, 17, 18, 19, 20] (fun (l907, g906, A908, c909) => [(8, .pointer (some ⟨g906, 0, none⟩))]) (fun (l907, g906, A908, c909) => [box g1 25 #[.int .i64 a0_0, .slice A0_1 l0_1.length c0_1, .slice A0_2 l0_2.length c0_2], box g3 25 #[.int .i64 0, .slice none 0 0, .slice none 0 0], box g906 25 #[.int .i64 a0_0, .slice A908 l907.length c909, .slice none 0 0], row kStep 107 (.slice A908 l907.length c909) l907]) ?_ ?_
  · skip
    have h := hl911; clear hl911
    clear hR912
    refine zab h (fun l1216 ha1217 h => ?_) rfl
    refine zab h (fun z1397 hx1396 h => ?_) rfl
    refine zab h (fun l1516 ha1517 h => ?_) rfl
    refine a_start (ds := []) MO rfl ?_
    refine za7 0 rfl rfl rfl (by kernel_rfl) (fun _ _ _ h => h) (q_f F25_0 rfl) ?_
    refine zb2 1 rfl rfl rfl (by kernel_rfl) (fun _ _ _ h => h) (fun w h => h) (q_ldb Y3 rfl (fun w h => h.zaj (i := 1) rfl) rfl) ?_
    refine za7 3 rfl rfl rfl (by kernel_rfl) (fun _ _ _ h => h) (q_f F25_1 rfl) ?_
    refine zb2 4 rfl rfl rfl (by kernel_rfl) (fun _ _ _ h => h) (fun w h => h) (q_ldb Y22 rfl (fun w h => h.zaj (i := 1) rfl) rfl) ?_
    refine za7 6 rfl rfl rfl (by kernel_rfl) (fun _ _ _ h => h) (za2 rfl) ?_
    refine za7 7 rfl rfl rfl (by kernel_rfl) (fun _ _ _ h => h) (za2 rfl) ?_
    refine a_two 2 12 rfl rfl rfl rfl (by kernel_rfl) rfl rfl (e_lit0 kStep Try.underlying22 I107) (fun s w h => za3 [some 1, some 2] (by decide) w h rfl) (zam V25 rfl) (fun s w h => za3 [some 1, some 2] (by decide) w h rfl) (cur2 (fun A1036 c1037 => ?_)) (fun g1636 => ?_)
    · skip
      refine a_two 5 12 rfl rfl rfl rfl (by kernel_rfl) rfl rfl (e_appr (i := 0) Try.underlying22 I107 rfl (by decide) (by decide) (fun _ _ _ _ h => h) rfl (fun w h => R0_1.now Z h) rfl rfl ha1217) (fun s w h => za3 [some 1, some 2] (by decide) w h rfl) (zam V25 rfl) (fun s w h => za3 [some 2, some 3] (by decide) w h rfl) (cur2 (fun A1218 c1219 => ?_)) (fun g1636 => ?_)
      · skip
        refine a_two 8 12 rfl rfl rfl rfl (by kernel_rfl) rfl rfl (za8 0 Z Try.func146 N146 rfl rfl rfl (fun w P1 hF hB hS hT => spec_plStep.calls a1 a2 hB hF _ hx1396)) (fun s w h => za3 [some 1, some 2] (by decide) w h rfl) (zam V25 rfl) (fun s w h => za3 [some 2, some 3] (by decide) w h rfl) (fun _ => ?_) (fun g1636 => ?_)
        · skip
          refine a_two 9 12 rfl rfl rfl rfl (by kernel_rfl) rfl rfl (e_lit (vs := [(0, .agg #[.int .i64 z1397.f0, .int .i64 z1397.f1])]) (cs := [.int .i64 z1397.f0, .int .i64 z1397.f1]) kStep ([z1397] : List SStep) Try.underlying22 I107 (by decide) rfl (by decide) rfl rfl (fun _ _ => reps_flat _)) (fun s w h => za3 [some 2, some 3] (by decide) w h rfl) (zam V25 rfl) (fun s w h => za3 [some 2, some 3] (by decide) w h rfl) (cur2 (fun A1456 c1457 => ?_)) (fun g1636 => ?_)
          · skip
            refine a_two 10 12 rfl rfl rfl rfl (by kernel_rfl) rfl rfl (e_app (i := 1) (j := 0) Try.underlying22 I107 rfl (by decide) (by decide) rfl rfl rfl rfl rfl ha1517) (fun s w h => za3 [some 2, some 3] (by decide) w h rfl) (zam V25 rfl) (fun s w h => za3 [some 3, some 4] (by decide) w h rfl) (cur2 (fun A1518 c1519 => ?_)) (fun g1636 => ?_)
            · skip
              refine za7 11 rfl rfl rfl (by kernel_rfl) (fun _ _ _ h => h) (q_build (vs := [(0, .int .i64 a0_0), (1, .slice A1518 l1516.length c1519)]) (cs := [.int .i64 a0_0, .slice A1518 l1516.length c1519, .slice none 0 0]) rfl rfl) ?_
              refine a_one 12 rfl rfl (by kernel_rfl) rfl (zam V25 rfl) (fun s w h => za3 [some 3, some 4] (by decide) w h rfl) (fun g1636 => ?_)
              refine a_one 13 rfl rfl (by kernel_rfl) rfl (zav (i := 0) rfl rfl rfl Z25 rfl rfl) (fun s w h => za3 [some 3, some 4] (by decide) w h rfl) (fun _ => ?_)
              refine zan (by kernel_rfl) ?_
              refine zao (l1516, g1636, A1518, c1519) h ⟨rfl, trivial⟩ (fun w h => za6 [4, 3, 0, 2] (by decide) rfl w h) ?_
              repeat (first | exact za9 _ _ | refine zae rfl ?_ | refine zaa rfl ?_ | refine zaf rfl ?_)
            · skip
              refine a_one 10 rfl rfl (by kernel_rfl) rfl (e_app (i := 2) (j := 1) Try.underlying22 I107 rfl (by decide) (by decide) rfl rfl rfl rfl rfl ha1517) (fun s w h => za3 [some 3, some 4] (by decide) w h rfl) (cur2 (fun A1518 c1519 => ?_))
              refine za7 11 rfl rfl rfl (by kernel_rfl) (fun _ _ _ h => h) (q_build (vs := [(0, .int .i64 a0_0), (1, .slice A1518 l1516.length c1519)]) (cs := [.int .i64 a0_0, .slice A1518 l1516.length c1519, .slice none 0 0]) rfl rfl) ?_
              refine a_one 13 rfl rfl (by kernel_rfl) rfl (zav (i := 0) rfl rfl rfl Z25 rfl rfl) (fun s w h => za3 [some 3, some 4] (by decide) w h rfl) (fun _ => ?_)
              refine zan (by kernel_rfl) ?_
              refine zao (l1516, g1636, A1518, c1519) h ⟨rfl, trivial⟩ (fun w h => za6 [4, 3, 0, 2] (by decide) rfl w h) ?_
              repeat (first | exact za9 _ _ | refine zae rfl ?_ | refine zaa rfl ?_ | refine zaf rfl ?_)
          · skip
            refine a_one 9 rfl rfl (by kernel_rfl) rfl (e_lit (vs := [(0, .agg #[.int .i64 z1397.f0, .int .i64 z1397.f1])]) (cs := [.int .i64 z1397.f0, .int .i64 z1397.f1]) kStep ([z1397] : List SStep) Try.underlying22 I107 (by decide) rfl (by decide) rfl rfl (fun _ _ => reps_flat _)) (fun s w h => za3 [some 3, some 4] (by decide) w h rfl) (cur2 (fun A1456 c1457 => ?_))
            refine a_one 10 rfl rfl (by kernel_rfl) rfl (e_app (i := 2) (j := 0) Try.underlying22 I107 rfl (by decide) (by decide) rfl rfl rfl rfl rfl ha1517) (fun s w h => za3 [some 3, some 4] (by decide) w h rfl) (cur2 (fun A1518 c1519 => ?_))
            refine za7 11 rfl rfl rfl (by kernel_rfl) (fun _ _ _ h => h) (q_build (vs := [(0, .int .i64 a0_0), (1, .slice A1518 l1516.length c1519)]) (cs := [.int .i64 a0_0, .slice A1518 l1516.length c1519, .slice none 0 0]) rfl rfl) ?_
            refine a_one 13 rfl rfl (by kernel_rfl) rfl (zav (i := 1) rfl rfl rfl Z25 rfl rfl) (fun s w h => za3 [some 3, some 4] (by decide) w h rfl) (fun _ => ?_)
            refine zan (by kernel_rfl) ?_
            refine zao (l1516, g1636, A1518, c1519) h ⟨rfl, trivial⟩ (fun w h => za6 [4, 3, 1, 2] (by decide) rfl w h) ?_
            repeat (first | exact za9 _ _ | refine zae rfl ?_ | refine zaa rfl ?_ | refine zaf rfl ?_)
        · skip
          refine a_one 8 rfl rfl (by kernel_rfl) rfl (za8 0 Z Try.func146 N146 rfl rfl rfl (fun w P1 hF hB hS hT => spec_plStep.calls a1 a2 hB hF _ hx1396)) (fun s w h => za3 [some 2, some 3] (by decide) w h rfl) (fun _ => ?_)
          refine a_one 9 rfl rfl (by kernel_rfl) rfl (e_lit (vs := [(0, .agg #[.int .i64 z1397.f0, .int .i64 z1397.f1])]) (cs := [.int .i64 z1397.f0, .int .i64 z1397.f1]) kStep ([z1397] : List SStep) Try.underlying22 I107 (by decide) rfl (by decide) rfl rfl (fun _ _ => reps_flat _)) (fun s w h => za3 [some 3, some 4] (by decide) w h rfl) (cur2 (fun A1456 c1457 => ?_))
          refine a_one 10 rfl rfl (by kernel_rfl) rfl (e_app (i := 2) (j := 0) Try.underlying22 I107 rfl (by decide) (by decide) rfl rfl rfl rfl rfl ha1517) (fun s w h => za3 [some 3, some 4] (by decide) w h rfl) (cur2 (fun A1518 c1519 => ?_))
          refine za7 11 rfl rfl rfl (by kernel_rfl) (fun _ _ _ h => h) (q_build (vs := [(0, .int .i64 a0_0), (1, .slice A1518 l1516.length c1519)]) (cs := [.int .i64 a0_0, .slice A1518 l1516.length c1519, .slice none 0 0]) rfl rfl) ?_
          refine a_one 13 rfl rfl (by kernel_rfl) rfl (zav (i := 1) rfl rfl rfl Z25 rfl rfl) (fun s w h => za3 [some 3, some 4] (by decide) w h rfl) (fun _ => ?_)
          refine zan (by kernel_rfl) ?_
          refine zao (l1516, g1636, A1518, c1519) h ⟨rfl, trivial⟩ (fun w h => za6 [4, 3, 1, 2] (by decide) rfl w h) ?_
          repeat (first | exact za9 _ _ | refine zae rfl ?_ | refine zaa rfl ?_ | refine zaf rfl ?_)
      · skip
        refine a_one 5 rfl rfl (by kernel_rfl) rfl (e_appr (i := 1) Try.underlying22 I107 rfl (by decide) (by decide) (fun _ _ _ _ h => h) rfl (fun w h => R0_1.now Z h) rfl rfl ha1217) (fun s w h => za3 [some 2, some 3] (by decide) w h rfl) (cur2 (fun A1218 c1219 => ?_))
        refine a_one 8 rfl rfl (by kernel_rfl) rfl (za8 0 Z Try.func146 N146 rfl rfl rfl (fun w P1 hF hB hS hT => spec_plStep.calls a1 a2 hB hF _ hx1396)) (fun s w h => za3 [some 2, some 3] (by decide) w h rfl) (fun _ => ?_)
        refine a_one 9 rfl rfl (by kernel_rfl) rfl (e_lit (vs := [(0, .agg #[.int .i64 z1397.f0, .int .i64 z1397.f1])]) (cs := [.int .i64 z1397.f0, .int .i64 z1397.f1]) kStep ([z1397] : List SStep) Try.underlying22 I107 (by decide) rfl (by decide) rfl rfl (fun _ _ => reps_flat _)) (fun s w h => za3 [some 3, some 4] (by decide) w h rfl) (cur2 (fun A1456 c1457 => ?_))
        refine a_one 10 rfl rfl (by kernel_rfl) rfl (e_app (i := 2) (j := 0) Try.underlying22 I107 rfl (by decide) (by decide) rfl rfl rfl rfl rfl ha1517) (fun s w h => za3 [some 3, some 4] (by decide) w h rfl) (cur2 (fun A1518 c1519 => ?_))
        refine za7 11 rfl rfl rfl (by kernel_rfl) (fun _ _ _ h => h) (q_build (vs := [(0, .int .i64 a0_0), (1, .slice A1518 l1516.length c1519)]) (cs := [.int .i64 a0_0, .slice A1518 l1516.length c1519, .slice none 0 0]) rfl rfl) ?_
        refine a_one 13 rfl rfl (by kernel_rfl) rfl (zav (i := 1) rfl rfl rfl Z25 rfl rfl) (fun s w h => za3 [some 3, some 4] (by decide) w h rfl) (fun _ => ?_)
        refine zan (by kernel_rfl) ?_
        refine zao (l1516, g1636, A1518, c1519) h ⟨rfl, trivial⟩ (fun w h => za6 [4, 3, 1, 2] (by decide) rfl w h) ?_
        repeat (first | exact za9 _ _ | refine zae rfl ?_ | refine zaa rfl ?_ | refine zaf rfl ?_)
    · skip
      refine a_one 2 rfl rfl (by kernel_rfl) rfl (e_lit0 kStep Try.underlying22 I107) (fun s w h => za3 [some 2, some 3] (by decide) w h rfl) (cur2 (fun A1036 c1037 => ?_))
      refine a_one 5 rfl rfl (by kernel_rfl) rfl (e_appr (i := 0) Try.underlying22 I107 rfl (by decide) (by decide) (fun _ _ _ _ h => h) rfl (fun w h => R0_1.now Z h) rfl rfl ha1217) (fun s w h => za3 [some 2, some 3] (by decide) w h rfl) (cur2 (fun A1218 c1219 => ?_))
      refine a_one 8 rfl rfl (by kernel_rfl) rfl (za8 0 Z Try.func146 N146 rfl rfl rfl (fun w P1 hF hB hS hT => spec_plStep.calls a1 a2 hB hF _ hx1396)) (fun s w h => za3 [some 2, some 3] (by decide) w h rfl) (fun _ => ?_)
      refine a_one 9 rfl rfl (by kernel_rfl) rfl (e_lit (vs := [(0, .agg #[.int .i64 z1397.f0, .int .i64 z1397.f1])]) (cs := [.int .i64 z1397.f0, .int .i64 z1397.f1]) kStep ([z1397] : List SStep) Try.underlying22 I107 (by decide) rfl (by decide) rfl rfl (fun _ _ => reps_flat _)) (fun s w h => za3 [some 3, some 4] (by decide) w h rfl) (cur2 (fun A1456 c1457 => ?_))
      refine a_one 10 rfl rfl (by kernel_rfl) rfl (e_app (i := 1) (j := 0) Try.underlying22 I107 rfl (by decide) (by decide) rfl rfl rfl rfl rfl ha1517) (fun s w h => za3 [some 3, some 4] (by decide) w h rfl) (cur2 (fun A1518 c1519 => ?_))
      refine za7 11 rfl rfl rfl (by kernel_rfl) (fun _ _ _ h => h) (q_build (vs := [(0, .int .i64 a0_0), (1, .slice A1518 l1516.length c1519)]) (cs := [.int .i64 a0_0, .slice A1518 l1516.length c1519, .slice none 0 0]) rfl rfl) ?_
      refine a_one 13 rfl rfl (by kernel_rfl) rfl (zav (i := 2) rfl rfl rfl Z25 rfl rfl) (fun s w h => za3 [some 3, some 4] (by decide) w h rfl) (fun _ => ?_)
      refine zan (by kernel_rfl) ?_
      refine zao (l1516, g1636, A1518, c1519) h ⟨rfl, trivial⟩ (fun w h => za6 [4, 3, 2, 1] (by decide) rfl w h) ?_
      repeat (first | exact za9 _ _ | refine zae rfl ?_ | refine zaa rfl ?_ | refine zaf rfl ?_)
  · skip
    refine (cur4 (fun l907 g906 A908 c909 => fun U913 hJ914 => ?_))
    have e_ := Option.some.inj hJ914; have h := hR912; rw [← e_] at h; clear e_ hJ914 hR912 hl911
    refine c_seq ?_
    refine a_startS (ds := []) [some 0, none, some 2, some 3] MO rfl ?_
    refine zb2 0 rfl rfl rfl (by kernel_rfl) (fun _ _ _ h => h) (fun w h => za3 [some 0, none, some 2, some 3] (by decide) w h rfl) (q_ldB G25 Z25 rfl (fun w h => h.zaj (i := 2) rfl) rfl) ?_
    refine za7 1 rfl rfl rfl (by kernel_rfl) (fun _ _ _ h => h) (q_f F25_0 rfl) ?_
    refine zb2 2 rfl rfl rfl (by kernel_rfl) (fun _ _ _ h => h) (fun w h => za3 [some 0, none, some 2, some 3] (by decide) w h rfl) (q_ldb Y3 rfl (fun w h => h.zaj (i := 0) rfl) rfl) ?_
    refine za7 3 rfl rfl rfl (by kernel_rfl) (fun _ _ _ h => h) (q_f F25_1 rfl) ?_
    refine zb2 4 rfl rfl rfl (by kernel_rfl) (fun _ _ _ h => h) (fun w h => za3 [some 0, none, some 2, some 3] (by decide) w h rfl) (q_ldb Y22 rfl (fun w h => h.zaj (i := 0) rfl) rfl) ?_
    refine za7 5 rfl rfl rfl (by kernel_rfl) (fun _ _ _ h => h) (q_len Try.underlying22 rfl) ?_
    refine za7 6 rfl rfl rfl (by kernel_rfl) (fun _ _ _ h => h) (zb7 rfl rfl) ?_
    refine a_one 7 rfl rfl (by kernel_rfl) rfl (zav (i := 1) rfl rfl rfl Z25 rfl rfl) (fun s w h => za3 [some 0, none, some 2, some 3] (by decide) w h rfl) (fun _ => ?_)
    refine za7 8 rfl rfl rfl (by kernel_rfl) (fun _ _ _ h => h) (q_asg rfl) ?_
    refine zan (by kernel_rfl) ?_
    refine za1 ?_
    refine c_ret ?_
    refine x_nil (Kd.int .i64) 3 ?_
    have e0_ := Option.some.inj h; clear h
    subst e0_
    exact x_r2 (A908, c909) Try.results110 (rv_cell rfl G25 Z25 (fun w h => h.zaj (i := 2) rfl) rfl) (zal rfl) rfl (fun w h => za6 [4, 0] (by decide) rfl w h)

end Go.Proofs.Ytiaohjciddbpoaa.H3
