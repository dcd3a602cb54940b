import Derived.Test.YtiaohjciddbpoaaKFnExactBestPlanH9p1
namespace Go.Proofs.Ytiaohjciddbpoaa.H9
set_option maxHeartbeats 8000000
set_option maxRecDepth 100000
open Go.RowKit Go.Proofs.Ytiaohjciddbpoaa.Frame Go.Proofs.YtiaohjciddbpoaaW.PrintLast Go.Proofs.Ytiaohjciddbpoaa.Hand
open Go.Proofs.YtiaohjciddbpoaaW.PrintWords hiding mn mx
set_option linter.unusedVariables false
def spec_l1Own.f (l0 : List Int) : Option (List Int) := (ap ([] : List Int) l0).bind fun l4 => some l4
theorem spec_l1Own.calls {w0 ws : World} {P0 : Nat → Prop} (A0 : Option Addr) (c0 : Nat) (n0 : Nat) (l0 : List Int) (Z : Below w0.heap.size w0 ws) (hF : Fr w0 ws P0 [] ws) (R0 : Stable ws P0 (fun w => Kd.C (Kd.int .i64) w A0 n0 l0)) (hc0 : n0 ≤ c0) (r_1 : List Int) (h : spec_l1Own.f l0 = some r_1) :
    Calls Try.prog 98 #[.slice A0 n0 c0] ws (Post1 w0 ws P0 (fun ((q_2, q_3) : (Option Addr) × Nat) => .slice q_2 r_1.length q_3) (fun ((q_2, q_3) : (Option Addr) × Nat) => [row (Kd.int .i64) 3 (.slice q_2 r_1.length q_3) r_1])) := by
  unfold spec_l1Own.f at h
  obtain rfl := (R0 ws (KeptB.refl _ _)).1
  refine enter Try.func98 rfl Try.ntmps98 rfl hF (c_seq (za0 (o_q rfl rfl (q_asg rfl) (o_end (za1 (c_seq (za0 (o_e rfl (e_lit0 (Kd.int .i64) Try.underlying23 I3) (cur2 (fun A1 c2 => o_q rfl rfl (za2 rfl) ?_))))))))))
  refine za7 h (fun l4 ha5 h => ?_) rfl
  refine o_e rfl (e_appr (i := 0) Try.underlying23 I3 rfl dc_ dc_ (fun _ _ _ _ h => h) rfl (fun w h => R0.now Z h) rfl rfl ha5) (cur2 (fun A6 c7 => o_q rfl rfl (q_asg rfl) (o_end (za1 (c_ret ?_)))))
  have e0_ := si_ h; clear h
  subst e0_
  exact x_r1 (A6, c7) Try.results98 (zal rfl) rfl (fun w h => za5 [0] dc_ rfl w h)

def spec_l1Has.l0 (a1 : Int) : (List Int) → Int → Option ((Bool) ⊕ (Unit))
  | [], i1 => some (.inr ())
  | y2 :: ys3, i1 => if y2 = a1 then (some (.inl true)) else (spec_l1Has.l0 a1 ys3 (i1 + 1))
def spec_l1Has.f (l0 : List Int) (a1 : Int) : Option Bool := (spec_l1Has.l0 a1 l0 0).bind fun o_ => match o_ with | .inl r_ => some r_ | .inr _ => some false
theorem spec_l1Has.calls {w0 ws : World} {P0 : Nat → Prop} (A0 : Option Addr) (c0 : Nat) (n0 : Nat) (l0 : List Int) (a1 : Int) (Z : Below w0.heap.size w0 ws) (hF : Fr w0 ws P0 [] ws) (R0 : Stable ws P0 (fun w => Kd.C (Kd.int .i64) w A0 n0 l0)) (hc0 : n0 ≤ c0) (r_1 : Bool) (h : spec_l1Has.f l0 a1 = some r_1) :
    Calls Try.prog 161 #[.slice A0 n0 c0, .int .i64 a1] ws (Post1 w0 ws P0 (fun (_ : Unit) => .bool r_1) (fun (_ : Unit) => [])) := by
  unfold spec_l1Has.f at h
  obtain rfl := (R0 ws (KeptB.refl _ _)).1
  refine enter Try.func161 rfl Try.ntmps161 rfl hF (c_seq (za0 (o_q rfl rfl (q_asg rfl) (o_end (za1 (c_seq (c_seq (za0 (o_q rfl rfl (za2 rfl) ?_)))))))))
  refine o_q rfl rfl (q_len Try.underlying23 rfl) (o_q rfl rfl (za2 rfl) (o_end (za1 (zai (za7 h (fun o9 hl8 hR7 => ?_) rfl)))))
  clear h
  refine c_fact (p := l0.length ≤ 9223372036854775807) (fun w h => (R0.now Z h).2.1) (fun hm6 => zaw (σ := (List Int) × Int) (fun k4 ((ys3, i1) : (List Int) × Int) => Rg l0 i1 ys3 ∧ ys3.length = k4 ∧ spec_l1Has.l0 a1 ys3 i1 = some o9) [4, 6, 9, 10, 11, 12, 13, 14, 15, 16] (fun ((ys3, i1) : (List Int) × Int) => [(9, .int .i64 i1)]) (fun ((ys3, i1) : (List Int) × Int) => []) l0.length (l0, 0) ⟨Rg.start _, rfl, hl8⟩ ⟨rfl, trivial⟩ (fun w h => h) (fun k4 => cur2 (listC (fun i1 U10 hJ_ => ?_) (fun y2 ys3 i1 U10 hJ_ => ?_))))
  · skip
    clear hl8
    have hr5 := hJ_.1; have hk11 := hJ_.2.1; have h := hJ_.2.2; clear hJ_
    replace h : spec_l1Has.l0 a1 [] i1 = some o9 := h
    rw [spec_l1Has.l0] at h
    refine c_seq (za0 (o_q rfl rfl (q_lss rfl rfl) (o_end (za1 (c_seq (c_false (vb_ hr5.ge) (zb2 (za8 (za8 ?_)))))))))
    have e_ := si_ h; replace h := hR7; rw [← e_] at h; clear e_
    refine x_hit (za1 (c_seq (za0 (o_q rfl rfl (q_asg rfl) (o_end (za1 (c_ret ?_)))))))
    have e0_ := si_ h; clear h
    subst e0_
    exact x_r1 () Try.results161 (zal rfl) rfl (fun w h => za5 [] dc_ rfl w h)
  · skip
    clear hl8
    have hr5 := hJ_.1; have hk11 := hJ_.2.1; have h := hJ_.2.2; clear hJ_
    replace h : spec_l1Has.l0 a1 (y2 :: ys3) i1 = some o9 := h
    rw [spec_l1Has.l0] at h
    refine c_seq (za0 (o_q rfl rfl (q_lss rfl rfl) (o_end (za1 (c_seq (zb8 (vb_ hr5.lt) (zam (za1 (c_seq ?_)))))))))
    refine zai (c_seq (za0 (zb4 (p := Sh A0 l0.length l0.length) (fun w h => f_sh (dk := (Kd.int .i64)) h (fun w h => R0.now Z h)) (fun hq12 => o_q rfl rfl (q_ix Try.underlying23 Z3 rfl rfl hq12 hr5.get) (o_q rfl rfl (q_lde (off := 0) Y3 rfl rfl (fun w h => R0.now Z h) hr5.get (fun _ _ h => h) rfl) (o_q rfl rfl (q_asg rfl) (o_end (za1 (c_seq ?_)))))))))
    refine za0 (o_q rfl rfl (za2 rfl) (o_q rfl rfl (za2 rfl) (o_q rfl rfl (q_eql rfl rfl) (o_end (za1 (zaq _ rfl (fun hb13 => ?_) (fun hb13 => ?_)))))))
    · skip
      replace h := br_t hb13 h
      refine c_seq (za0 (o_q rfl rfl (q_asg rfl) (o_end (za1 (c_ret (zat (zab (zab ?_))))))))
      have e_ := si_ h; replace h := hR7; rw [← e_] at h; clear e_
      refine zat (zab ?_)
      have e0_ := si_ h; clear h
      subst e0_
      exact x_r1 () Try.results161 (zal rfl) rfl (fun w h => za5 [] dc_ rfl w h)
    · skip
      replace h := br_f hb13 h
      refine zam (zak (za1 (za0 (o_q rfl rfl (q_up rfl rfl (hr5.up hm6)) (o_q rfl rfl (za2 rfl) (o_end (zan ys3.length (ys3, i1 + 1) (by rw [← hk11]; exact Nat.lt_succ_self _) ⟨hr5.step, rfl, h⟩ ⟨rfl, trivial⟩ (fun w h => za5 [] dc_ rfl w h) ?_)))))))
      exact of_

def spec_l1Put.l0 (l0 : List Int) (a1 : Int) : Nat → Int → Option Int
  | 0, _ => none
  | k26 + 1, i23 => if i23 < (l0.length : Int) then ((gt l0 i23).bind fun y37 => if y37 < a1 then (spec_l1Put.l0 l0 a1 k26 (w64 (i23 + 1))) else (some i23)) else (some i23)
def spec_l1Put.f (k : Nat) (l0 : List Int) (a1 : Int) : Option (List Int) := ((spec_l1Put.l0 l0 a1 k 0)).bind fun i17 => (if i17 < (l0.length : Int) then ((gt l0 i17).bind fun y52 => if y52 = a1 then (some (.inl l0)) else (some (.inr ()))) else (some (.inr ())) : Option (((List Int)) ⊕ (Unit))).bind fun o_ => match o_ with | .inl r_ => some r_ | .inr _ => (ct l0 (0 : Int) i17).bind fun l57 => (ap ([] : List Int) l57).bind fun l60 => (ap l60 ([a1] : List Int)).bind fun l67 => (ct l0 i17 (l0.length : Int)).bind fun l71 => (ap l67 l71).bind fun l74 => some l74
theorem spec_l1Put.calls (k : Nat) {w0 ws : World} {P0 : Nat → Prop} (A0 : Option Addr) (c0 : Nat) (n0 : Nat) (l0 : List Int) (a1 : Int) (Z : Below w0.heap.size w0 ws) (hF : Fr w0 ws P0 [row (Kd.int .i64) 3 (.slice A0 n0 c0) l0] ws)  (r_1 : List Int) (h : spec_l1Put.f k l0 a1 = some r_1) :
    Calls Try.prog 162 #[.slice A0 n0 c0, .int .i64 a1] ws (Post1 w0 ws P0 (fun ((q_2, q_3) : (Option Addr) × Nat) => .slice q_2 r_1.length q_3) (fun ((q_2, q_3) : (Option Addr) × Nat) => [row (Kd.int .i64) 3 (.slice q_2 r_1.length q_3) r_1])) := by
  unfold spec_l1Put.f at h
  obtain rfl := (hF.row_C (i := 0) rfl).2.1
  refine enter Try.func162 rfl Try.ntmps162 rfl hF (c_seq (za0 (o_q rfl rfl (q_asg rfl) (o_end (za1 (c_seq (za0 (o_q rfl rfl (q_asg rfl) (o_end ?_)))))))))
  refine za1 (za7 h (fun o18 hl19 hR20 => ?_) rfl)
  clear h
  refine c_cutJ (σ := Int) (fun i17 => some i17 = some o18) [5, 7, 8, 9, 10, 11, 12, 13, 14, 15, 16, 17, 18, 19, 20] (fun i17 => [(5, .int .i64 i17)]) (fun i17 => [row (Kd.int .i64) 3 (.slice A0 l0.length c0) l0]) ?_ ?_
  · skip
    have h := hl19; clear hl19
    clear hR20
    refine zai ?_
    have hl30 := h; clear h
    refine zaw (σ := Int) (fun k26 (i23 : Int) => spec_l1Put.l0 l0 a1 k26 i23 = some o18) [5, 7, 8, 9, 10, 11, 12, 13, 14, 15, 16, 17, 18, 19, 20] (fun (i23 : Int) => [(5, .int .i64 i23)]) (fun (i23 : Int) => [row (Kd.int .i64) 3 (.slice A0 l0.length c0) l0]) k 0 hl30 ⟨rfl, trivial⟩ (fun w h => h) (natC (fun i23 => fun U32 hJ_ => ?_) (fun k26 => (fun i23 => fun U32 hJ_ => ?_)))
    · skip
      replace hJ_ : spec_l1Put.l0 l0 a1 0 i23 = some o18 := hJ_
      rw [spec_l1Put.l0] at hJ_
      exact noneE hJ_
    · skip
      clear hl30
      have h := hJ_; clear hJ_
      replace h : spec_l1Put.l0 l0 a1 (k26 + 1) i23 = some o18 := h
      rw [spec_l1Put.l0] at h
      refine c_seq (c_seq (za0 (o_q rfl rfl (za2 rfl) (o_q rfl rfl (za2 rfl) (o_q rfl rfl (q_len Try.underlying23 rfl) (o_q rfl rfl (q_lss rfl rfl) (o_q rfl rfl (za2 rfl) (byB (decide (i23 < (l0.length : Int))) (fun hb34 => ?_) (fun hb34 => ?_)))))))))
      · replace h := br_t hb34 h
        refine o_w (zae rfl rfl rfl (vb_ hb34)) rfl (za2 rfl) (o_w (zae rfl rfl rfl (vb_ hb34)) rfl (za2 rfl) (zb4 (p := Sh A0 l0.length l0.length) (fun w h => f_sh (dk := (Kd.int .i64)) h (fun w h => h.zar (i := 0) rfl)) (fun hq35 => za7 h (fun y37 hg36 h => ?_) rfl)))
        refine o_w (zae rfl rfl rfl (vb_ hb34)) rfl (q_ix Try.underlying23 Z3 rfl rfl hq35 hg36) (o_w (zae rfl rfl rfl (vb_ hb34)) rfl (q_lde (off := 0) Y3 rfl rfl (fun w h => h.zar (i := 0) rfl) hg36 (fun _ _ h => h) rfl) (o_w (zae rfl rfl rfl (vb_ hb34)) rfl (za2 rfl) (o_w (zae rfl rfl rfl (vb_ hb34)) rfl (q_lss rfl rfl) (o_q rfl rfl (zax true (vb_ hb34) rfl) (o_end (za1 (zaq _ rfl (fun hb38 => ?_) (fun hb38 => ?_))))))))
        · skip
          replace h := br_t hb38 h
          refine zam (za1 (zai (za0 (o_q rfl rfl (za2 rfl) (o_q rfl rfl (zb0 rfl rfl) (o_q rfl rfl (q_asg rfl) (o_end (zak (zan k26 (w64 (i23 + 1)) (Nat.lt_succ_self _) h ⟨rfl, trivial⟩ (fun w h => za5 [0] dc_ rfl w h) ?_)))))))))
          exact of_
        · skip
          replace h := br_f hb38 h
          refine zb2 (za8 (za8 (x_hit (zaj i23 h ⟨rfl, trivial⟩ (fun w h => za5 [0] dc_ rfl w h) ?_))))
          exact of_
      · replace h := br_f hb34 h
        refine o_n (d := 12) (zaa rfl rfl rfl (vb_ hb34) rfl) (Eq.refl (some 12)) (o_n (d := 13) (zaa rfl rfl rfl (vb_ hb34) rfl) (Eq.refl (some 13)) (o_n (d := 14) (zaa rfl rfl rfl (vb_ hb34) rfl) (Eq.refl (some 14)) (o_n (d := 15) (zaa rfl rfl rfl (vb_ hb34) rfl) (Eq.refl (some 15)) (o_n (d := 16) (zaa rfl rfl rfl (vb_ hb34) rfl) (Eq.refl (some 16)) (o_n (d := 17) (zaa rfl rfl rfl (vb_ hb34) rfl) (Eq.refl (some 17)) (o_q rfl rfl (zax false (vb_ hb34) rfl) (o_end (za1 (c_false rfl ?_)))))))))
        refine zb2 (za8 (za8 (x_hit (zaj i23 h ⟨rfl, trivial⟩ (fun w h => za5 [0] dc_ rfl w h) ?_))))
        exact of_
  · skip
    refine (fun i17 => fun U21 hJ22 => ?_)
    have e_ := si_ hJ22; have h := hR20; rw [← e_] at h; clear e_ hJ22 hR20 hl19
    refine za7 h (fun o44 hl45 hR46 => ?_) rfl
    clear h
    refine c_cutJ (σ := Unit) (fun _ => some (.inr ()) = some o44) [4, 21, 22, 23, 24, 25, 26, 27, 28, 29, 30, 31, 32, 33] (fun _ => []) (fun _ => [row (Kd.int .i64) 3 (.slice A0 l0.length c0) l0]) ?_ ?_
    · skip
      have h := hl45; clear hl45
      refine c_seq (za0 (o_q rfl rfl (za2 rfl) (o_q rfl rfl (za2 rfl) (o_q rfl rfl (q_len Try.underlying23 rfl) (o_q rfl rfl (q_lss rfl rfl) (o_q rfl rfl (za2 rfl) (byB (decide (i17 < (l0.length : Int))) (fun hb49 => ?_) (fun hb49 => ?_))))))))
      · replace h := br_t hb49 h
        refine o_w (zae rfl rfl rfl (vb_ hb49)) rfl (za2 rfl) (o_w (zae rfl rfl rfl (vb_ hb49)) rfl (za2 rfl) (zb4 (p := Sh A0 l0.length l0.length) (fun w h => f_sh (dk := (Kd.int .i64)) h (fun w h => h.zar (i := 0) rfl)) (fun hq50 => za7 h (fun y52 hg51 h => ?_) rfl)))
        refine o_w (zae rfl rfl rfl (vb_ hb49)) rfl (q_ix Try.underlying23 Z3 rfl rfl hq50 hg51) (o_w (zae rfl rfl rfl (vb_ hb49)) rfl (q_lde (off := 0) Y3 rfl rfl (fun w h => h.zar (i := 0) rfl) hg51 (fun _ _ h => h) rfl) (o_w (zae rfl rfl rfl (vb_ hb49)) rfl (za2 rfl) (o_w (zae rfl rfl rfl (vb_ hb49)) rfl (q_eql rfl rfl) (o_q rfl rfl (zax true (vb_ hb49) rfl) (o_end (za1 (zaq _ rfl (fun hb53 => ?_) (fun hb53 => ?_))))))))
        · skip
          replace h := br_t hb53 h
          refine c_seq (za0 (o_q rfl rfl (za2 rfl) (o_q rfl rfl (q_asg rfl) (o_end (za1 (c_ret (zab ?_)))))))
          have e_ := si_ h; replace h := hR46; rw [← e_] at h; clear e_
          have e0_ := si_ h; clear h
          subst e0_
          exact x_r1 (A0, c0) Try.results162 (zal rfl) rfl (fun w h => za5 [0] dc_ rfl w h)
        · skip
          replace h := br_f hb53 h
          refine zam (zaj () h trivial (fun w h => za5 [0] dc_ rfl w h) ?_)
          exact of_
      · replace h := br_f hb49 h
        refine o_n (d := 26) (zaa rfl rfl rfl (vb_ hb49) rfl) (Eq.refl (some 26)) (o_n (d := 27) (zaa rfl rfl rfl (vb_ hb49) rfl) (Eq.refl (some 27)) (o_n (d := 28) (zaa rfl rfl rfl (vb_ hb49) rfl) (Eq.refl (some 28)) (o_n (d := 29) (zaa rfl rfl rfl (vb_ hb49) rfl) (Eq.refl (some 29)) (o_n (d := 30) (zaa rfl rfl rfl (vb_ hb49) rfl) (Eq.refl (some 30)) (o_n (d := 31) (zaa rfl rfl rfl (vb_ hb49) rfl) (Eq.refl (some 31)) (o_q rfl rfl (zax false (vb_ hb49) rfl) (o_end (za1 (c_false rfl ?_)))))))))
        refine zam (zaj () h trivial (fun w h => za5 [0] dc_ rfl w h) ?_)
        exact of_
    · skip
      refine (fun _ => fun U47 hJ48 => ?_)
      have e_ := si_ hJ48; have h := hR46; rw [← e_] at h; clear e_ hJ48 hR46 hl45
      refine c_seq (za0 (o_e rfl (e_lit0 (Kd.int .i64) Try.underlying23 I3) (cur2 (fun A54 c55 => o_q rfl rfl (za2 rfl) (o_q rfl rfl (za2 rfl) (za7 h (fun l57 hz58 h => ?_) rfl))))))
      refine zb4 (p := l0.length = l0.length ∧ l0.length ≤ c0) (fun w h => h.row_nc (i := 1) rfl) (fun hk59 => o_q rfl rfl (q_ctv Try.underlying23 Z3 rfl rfl ⟨_, rfl⟩ hk59.1 hk59.2 hz58) (za7 h (fun l60 ha61 h => ?_) rfl))
      refine o_e rfl (e_appr (i := 0) Try.underlying23 I3 rfl dc_ dc_ (fun _ _ _ _ h => h) rfl (fun w h => C_cut (dk := (Kd.int .i64)) rfl hz58 hk59.2 (h.zar (i := 1) rfl)) rfl rfl ha61) (cur2 (fun A62 c63 => o_q rfl rfl (q_asg rfl) (o_end (za1 (c_seq (za0 (o_q rfl rfl (za2 rfl) (o_q rfl rfl (za2 rfl) (o_e rfl (e_lit (vs := [(0, .int .i64 a1)]) (cs := [.int .i64 a1]) (Kd.int .i64) ([a1] : List Int) Try.underlying23 I3 dc_ rfl dc_ rfl rfl (fun _ _ => Kd.zad _)) (cur2 (fun A64 c65 => za7 h (fun l67 ha68 h => ?_) rfl)))))))))))
      refine o_e rfl (e_app (i := 1) (j := 0) Try.underlying23 I3 rfl dc_ dc_ rfl rfl rfl rfl rfl ha68) (cur2 (fun A69 c70 => o_q rfl rfl (q_asg rfl) (o_end (za1 (c_seq (za0 (o_q rfl rfl (za2 rfl) (o_q rfl rfl (za2 rfl) (o_q rfl rfl (za2 rfl) (za7 h (fun l71 hz72 h => ?_) rfl))))))))))
      refine zb4 (p := l0.length = l0.length ∧ l0.length ≤ c0) (fun w h => h.row_nc (i := 2) rfl) (fun hk73 => o_q rfl rfl (q_ctv Try.underlying23 Z3 rfl ⟨_, rfl⟩ rfl hk73.1 hk73.2 hz72) (za7 h (fun l74 ha75 h => ?_) rfl))
      refine o_e rfl (e_appr (i := 1) Try.underlying23 I3 rfl dc_ dc_ (fun _ _ _ _ h => h) rfl (fun w h => C_cut (dk := (Kd.int .i64)) rfl hz72 hk73.2 (h.zar (i := 2) rfl)) rfl rfl ha75) (cur2 (fun A76 c77 => o_q rfl rfl (q_asg rfl) (o_end (za1 (c_ret ?_)))))
      have e0_ := si_ h; clear h
      subst e0_
      exact x_r1 (A76, c77) Try.results162 (zal rfl) rfl (fun w h => za5 [1] dc_ rfl w h)

def spec_plUsed.l0 (k : Nat) (a0_0 : Int) (l0_1 : List SStep) : Nat → (List Int) → (List Int) → Int → Option ((List Int) × (List Int))
  | 0, _, _, _ => none
  | k17 + 1, l8, l11, i14 => if 0 ≤ i14 then ((spec_l1Has.f l8 (w64 (a0_0 + i14))).bind fun b27 => if b27 = true then ((gt l0_1 i14).bind fun y31 => (gt l0_1 i14).bind fun y33 => (ap l8 ([y31.f0, y33.f1] : List Int)).bind fun l37 => (spec_l1Put.f k l11 i14).bind fun l42 => spec_plUsed.l0 k a0_0 l0_1 k17 l37 l42 (w64 (i14 - 1))) else (spec_plUsed.l0 k a0_0 l0_1 k17 l8 l11 (w64 (i14 - 1)))) else (some (l8, l11))
def spec_plUsed.f (k : Nat) (a0_0 : Int) (l0_1 : List SStep) (l0_2 : List Int) : Option (List Int) := (spec_l1Own.f l0_2).bind fun l4 => (spec_plUsed.l0 k a0_0 l0_1 k l4 ([] : List Int) (w64 ((l0_1.length : Int) - 1))).bind fun (l8, l11) => some l11
theorem spec_plUsed.calls (k : Nat) {w0 ws : World} {P0 : Nat → Prop} (a0_0 : Int) (A0_1 : Option Addr) (c0_1 : Nat) (n0_1 : Nat) (l0_1 : List SStep) (A0_2 : Option Addr) (c0_2 : Nat) (n0_2 : Nat) (l0_2 : List Int) (Z : Below w0.heap.size w0 ws) (hF : Fr w0 ws P0 [] ws) (R0_1 : Stable ws P0 (fun w => Kd.C kStep w A0_1 n0_1 l0_1)) (hc0_1 : n0_1 ≤ c0_1) (R0_2 : Stable ws P0 (fun w => Kd.C (Kd.int .i64) w A0_2 n0_2 l0_2)) (hc0_2 : n0_2 ≤ c0_2) (r_1 : List Int) (h : spec_plUsed.f k a0_0 l0_1 l0_2 = some r_1) :
    Calls Try.prog 148 #[.agg #[.int .i64 a0_0, .slice A0_1 n0_1 c0_1, .slice A0_2 n0_2 c0_2]] ws (Post1 w0 ws P0 (fun ((q_2, q_3) : (Option Addr) × Nat) => .slice q_2 r_1.length q_3) (fun ((q_2, q_3) : (Option Addr) × Nat) => [row (Kd.int .i64) 3 (.slice q_2 r_1.length q_3) r_1])) := by
  unfold spec_plUsed.f at h
  obtain rfl := (R0_1 ws (KeptB.refl _ _)).1
  obtain rfl := (R0_2 ws (KeptB.refl _ _)).1
  refine enter Try.func148 rfl Try.ntmps148 rfl hF (c_seq (za0 (o_e rfl (e_box rfl) (fun g1 => o_q rfl rfl (q_asg rfl) (o_end (za1 (c_seq (za0 (o_q rfl rfl (q_f F25_2 rfl) ?_)))))))))
  refine o_q rfl rfl (q_ldb Y23 rfl (fun w h => h.za9 (i := 0) rfl) rfl) (za7 h (fun l4 hx3 h => ?_) rfl)
  refine o_e rfl (za6 0 Z Try.func98 N98 rfl rfl rfl (fun w P1 hF hB hS hT => spec_l1Own.calls A0_2 c0_2 l0_2.length l0_2 hB hF (hS _ R0_2) hc0_2 _ hx3)) (cur2 (fun A5 c6 => o_q rfl rfl (q_asg rfl) (o_end (za1 (c_seq (za0 (o_q rfl rfl (q_asg rfl) (o_end (za1 (c_seq ?_))))))))))
  refine c_seq (za0 (o_q rfl rfl (q_f F25_1 rfl) (o_q rfl rfl (q_ldb Y22 rfl (fun w h => h.za9 (i := 1) rfl) rfl) (o_q rfl rfl (q_len Try.underlying22 rfl) (o_q rfl rfl (zb1 rfl rfl) (o_q rfl rfl (q_asg rfl) (o_end (za1 (zai ?_)))))))))
  refine c_nil (Kd.int .i64) 3 (za7 h (fun o22 hl21 hR20 => ?_) rfl)
  clear h
  refine zaw (σ := (List Int) × (List Int) × Int × (Option Addr) × Nat × (Option Addr) × Nat) (fun k17 ((l8, l11, i14, A9, c10, A12, c13) : (List Int) × (List Int) × Int × (Option Addr) × Nat × (Option Addr) × Nat) => spec_plUsed.l0 k a0_0 l0_1 k17 l8 l11 i14 = some o22) [3, 4, 5, 13, 14, 15, 16, 17, 18, 19, 20, 21, 22, 23, 24, 25, 26, 27, 28, 29, 30, 31, 32, 33, 34, 35, 36, 37, 38, 39, 40] (fun ((l8, l11, i14, A9, c10, A12, c13) : (List Int) × (List Int) × Int × (Option Addr) × Nat × (Option Addr) × Nat) => [(3, .slice A9 l8.length c10), (4, .slice A12 l11.length c13), (5, .int .i64 i14)]) (fun ((l8, l11, i14, A9, c10, A12, c13) : (List Int) × (List Int) × Int × (Option Addr) × Nat × (Option Addr) × Nat) => [row (Kd.int .i64) 3 (.slice A12 l11.length c13) l11, row (Kd.int .i64) 3 (.slice A9 l8.length c10) l8, box g1 25 #[.int .i64 a0_0, .slice A0_1 l0_1.length c0_1, .slice A0_2 l0_2.length c0_2]]) k (l4, ([] : List Int), w64 ((l0_1.length : Int) - 1), A5, c6, none, 0) hl21 ⟨rfl, rfl, rfl, trivial⟩ (fun w h => h) (natC (cur7 (fun l8 l11 i14 A9 c10 A12 c13 => fun U23 hJ_ => ?_)) (fun k17 => (cur7 (fun l8 l11 i14 A9 c10 A12 c13 => fun U23 hJ_ => ?_))))
  · skip
    replace hJ_ : spec_plUsed.l0 k a0_0 l0_1 0 l8 l11 i14 = some o22 := hJ_
    rw [spec_plUsed.l0] at hJ_
    exact noneE hJ_
  · skip
    clear hl21
    have h := hJ_; clear hJ_
    replace h : spec_plUsed.l0 k a0_0 l0_1 (k17 + 1) l8 l11 i14 = some o22 := h
    rw [spec_plUsed.l0] at h
    refine c_seq (c_seq (za0 (o_q rfl rfl (za2 rfl) (o_q rfl rfl (q_geq rfl rfl) (o_end (za1 (zaq _ rfl (fun hb25 => ?_) (fun hb25 => ?_))))))))
    · skip
      replace h := br_t hb25 h
      refine zam (za1 (c_seq (zai (c_seq (za0 (o_q rfl rfl (za2 rfl) (o_q rfl rfl (q_f F25_0 rfl) (o_q rfl rfl (q_ldb Y3 rfl (fun w h => h.za9 (i := 2) rfl) rfl) (o_q rfl rfl (za2 rfl) ?_)))))))))
      refine o_q rfl rfl (zb0 rfl rfl) (za7 h (fun b27 hx26 h => ?_) rfl)
      refine o_e rfl (za6 0 Z Try.func161 N161 rfl rfl rfl (fun w P1 hF hB hS hT => spec_l1Has.calls A9 c10 l8.length l8 (w64 (a0_0 + i14)) hB hF (hT 1 _ rfl).row (hT 1 _ rfl).cap _ hx26)) (fun _ => o_end (za1 (zaq _ rfl (fun hb28 => ?_) (fun hb28 => ?_))))
      · skip
        replace h := bb_t hb28 h
        refine c_seq (a_startS (ds := []) [some 0, none, some 2] MO rfl (za4 0 rfl rfl rfl kr_ (fun _ _ _ h => h) (za2 rfl) (za4 1 rfl rfl rfl kr_ (fun _ _ _ h => h) (q_f F25_1 rfl) (zau 2 rfl rfl rfl kr_ (fun _ _ _ h => h) (fun w h => za3 [some 0, none, some 2] dc_ w h rfl) (q_ldb Y22 rfl (fun w h => h.za9 (i := 2) rfl) rfl) (za4 3 rfl rfl rfl kr_ (fun _ _ _ h => h) (za2 rfl) (a_fact (p := Sh A0_1 l0_1.length l0_1.length) (fun w h => f_sh (dk := kStep) h (fun w h => R0_1.now Z h)) (fun hq29 => za7 h (fun y31 hg30 h => ?_) rfl)))))))
        refine za4 4 rfl rfl rfl kr_ (fun _ _ _ h => h) (q_ix Try.underlying22 Z107 rfl rfl hq29 hg30) (za4 5 rfl rfl rfl kr_ (fun _ _ _ h => h) (q_fe F107_0 rfl) (zau 6 rfl rfl rfl kr_ (fun _ _ _ h => h) (fun w h => za3 [some 0, none, some 2] dc_ w h rfl) (q_lde (off := 0) Y3 rfl rfl (fun w h => R0_1.now Z h) hg30 (fun _ _ h => h) rfl) (za4 7 rfl rfl rfl kr_ (fun _ _ _ h => h) (q_f F25_1 rfl) (zau 8 rfl rfl rfl kr_ (fun _ _ _ h => h) (fun w h => za3 [some 0, none, some 2] dc_ w h rfl) (q_ldb Y22 rfl (fun w h => h.za9 (i := 2) rfl) rfl) (za4 9 rfl rfl rfl kr_ (fun _ _ _ h => h) (za2 rfl) (za7 h (fun y33 hg32 h => ?_) rfl))))))
        refine za4 10 rfl rfl rfl kr_ (fun _ _ _ h => h) (q_ix Try.underlying22 Z107 rfl rfl hq29 hg32) (za4 11 rfl rfl rfl kr_ (fun _ _ _ h => h) (q_fe F107_1 rfl) (zau 12 rfl rfl rfl kr_ (fun _ _ _ h => h) (fun w h => za3 [some 0, none, some 2] dc_ w h rfl) (q_lde (off := 1) Y3 rfl rfl (fun w h => R0_1.now Z h) hg32 (fun _ _ h => h) rfl) (a_one 13 rfl rfl kr_ rfl (e_lit (vs := [(0, .int .i64 y31.f0), (1, .int .i64 y33.f1)]) (cs := [.int .i64 y31.f0, .int .i64 y33.f1]) (Kd.int .i64) ([y31.f0, y33.f1] : List Int) Try.underlying23 I3 dc_ rfl dc_ rfl rfl (fun _ _ => Kd.zad _)) (fun s w h => za3 [some 1, none, some 3] dc_ w h rfl) (cur2 (fun A34 c35 => za7 h (fun l37 ha38 h => ?_) rfl)))))
        refine a_one 14 rfl rfl kr_ rfl (e_app (i := 2) (j := 0) Try.underlying23 I3 rfl dc_ dc_ rfl rfl rfl rfl rfl ha38) (fun s w h => za3 [some 1, none, some 3] dc_ w h rfl) (cur2 (fun A39 c40 => za4 15 rfl rfl rfl kr_ (fun _ _ _ h => h) (q_asg rfl) (zao kr_ (za1 (za0 (o_q rfl rfl (za2 rfl) (o_q rfl rfl (za2 rfl) (o_pick [1, 2, 3] dc_ rfl (za7 h (fun l42 hx41 h => ?_) rfl)))))))))
        refine o_e rfl (za6 1 Z Try.func162 N162 rfl rfl rfl (fun w P1 hF hB hS hT => spec_l1Put.calls k A12 c13 l11.length l11 i14 hB hF _ hx41)) (cur2 (fun A43 c44 => o_q rfl rfl (q_asg rfl) (o_end (zak (za1 (za0 (o_q rfl rfl (za2 rfl) (o_q rfl rfl (zb1 rfl rfl) (o_q rfl rfl (q_asg rfl) (o_end ?_))))))))))
        refine zan k17 (l37, l42, w64 (i14 - 1), A39, c40, A43, c44) (Nat.lt_succ_self _) h ⟨rfl, rfl, rfl, trivial⟩ (fun w h => za5 [0, 1, 2] dc_ rfl w h) ?_
        exact of_
      · skip
        replace h := bb_f hb28 h
        refine zam (zak (za1 (za0 (o_q rfl rfl (za2 rfl) (o_q rfl rfl (zb1 rfl rfl) (o_q rfl rfl (q_asg rfl) (o_end (zan k17 (l8, l11, w64 (i14 - 1), A9, c10, A12, c13) (Nat.lt_succ_self _) h ⟨rfl, rfl, rfl, trivial⟩ (fun w h => za5 [0, 1, 2] dc_ rfl w h) ?_))))))))
        exact of_
    · skip
      replace h := br_f hb25 h
      refine zb2 (za8 (za8 ?_))
      have e_ := si_ h; replace h := hR20; rw [← e_] at h; clear e_
      refine x_hit (za1 (c_seq (za0 (o_q rfl rfl (za2 rfl) (o_q rfl rfl (q_asg rfl) (o_end (za1 (c_ret ?_))))))))
      have e0_ := si_ h; clear h
      subst e0_
      exact x_r1 (A12, c13) Try.results148 (zal rfl) rfl (fun w h => za5 [0] dc_ rfl w h)

def spec_plPlace.l0 (a1 : Int) : (List Int) → Int → Option ((Int) ⊕ (Unit))
  | [], i1 => some (.inr ())
  | y2 :: ys3, i1 => if y2 = a1 then (some (.inl i1)) else (spec_plPlace.l0 a1 ys3 (i1 + 1))
def spec_plPlace.f (l0 : List Int) (a1 : Int) : Option Int := (spec_plPlace.l0 a1 l0 0).bind fun o_ => match o_ with | .inl r_ => some r_ | .inr _ => some (-1)
theorem spec_plPlace.calls {w0 ws : World} {P0 : Nat → Prop} (A0 : Option Addr) (c0 : Nat) (n0 : Nat) (l0 : List Int) (a1 : Int) (Z : Below w0.heap.size w0 ws) (hF : Fr w0 ws P0 [] ws) (R0 : Stable ws P0 (fun w => Kd.C (Kd.int .i64) w A0 n0 l0)) (hc0 : n0 ≤ c0) (r_1 : Int) (h : spec_plPlace.f l0 a1 = some r_1) :
    Calls Try.prog 168 #[.slice A0 n0 c0, .int .i64 a1] ws (Post1 w0 ws P0 (fun (_ : Unit) => .int .i64 r_1) (fun (_ : Unit) => [])) := by
  unfold spec_plPlace.f at h
  obtain rfl := (R0 ws (KeptB.refl _ _)).1
  refine enter Try.func168 rfl Try.ntmps168 rfl hF (c_seq (za0 (o_q rfl rfl (q_asg rfl) (o_end (za1 (c_seq (c_seq (za0 (o_q rfl rfl (za2 rfl) ?_)))))))))
  refine o_q rfl rfl (q_len Try.underlying23 rfl) (o_q rfl rfl (za2 rfl) (o_end (za1 (zai (za7 h (fun o9 hl8 hR7 => ?_) rfl)))))
  clear h
  refine c_fact (p := l0.length ≤ 9223372036854775807) (fun w h => (R0.now Z h).2.1) (fun hm6 => zaw (σ := (List Int) × Int) (fun k4 ((ys3, i1) : (List Int) × Int) => Rg l0 i1 ys3 ∧ ys3.length = k4 ∧ spec_plPlace.l0 a1 ys3 i1 = some o9) [4, 5, 6, 9, 10, 11, 12, 13, 14, 15, 16, 17, 18] (fun ((ys3, i1) : (List Int) × Int) => [(9, .int .i64 i1)]) (fun ((ys3, i1) : (List Int) × Int) => []) l0.length (l0, 0) ⟨Rg.start _, rfl, hl8⟩ ⟨rfl, trivial⟩ (fun w h => h) (fun k4 => cur2 (listC (fun i1 U10 hJ_ => ?_) (fun y2 ys3 i1 U10 hJ_ => ?_))))
  · skip
    clear hl8
    have hr5 := hJ_.1; have hk11 := hJ_.2.1; have h := hJ_.2.2; clear hJ_
    replace h : spec_plPlace.l0 a1 [] i1 = some o9 := h
    rw [spec_plPlace.l0] at h
    refine c_seq (za0 (o_q rfl rfl (q_lss rfl rfl) (o_end (za1 (c_seq (c_false (vb_ hr5.ge) (zb2 (za8 (za8 ?_)))))))))
    have e_ := si_ h; replace h := hR7; rw [← e_] at h; clear e_
    refine x_hit (za1 (c_seq (za0 (o_q rfl rfl (q_asg rfl) (o_end (za1 (c_ret ?_)))))))
    have e0_ := si_ h; clear h
    subst e0_
    exact x_r1 () Try.results168 (zal rfl) rfl (fun w h => za5 [] dc_ rfl w h)
  · skip
    clear hl8
    have hr5 := hJ_.1; have hk11 := hJ_.2.1; have h := hJ_.2.2; clear hJ_
    replace h : spec_plPlace.l0 a1 (y2 :: ys3) i1 = some o9 := h
    rw [spec_plPlace.l0] at h
    refine c_seq (za0 (o_q rfl rfl (q_lss rfl rfl) (o_end (za1 (c_seq (zb8 (vb_ hr5.lt) (zam (za1 (c_seq ?_)))))))))
    refine zai (c_seq (za0 (o_q rfl rfl (za2 rfl) (zb4 (p := Sh A0 l0.length l0.length) (fun w h => f_sh (dk := (Kd.int .i64)) h (fun w h => R0.now Z h)) (fun hq12 => o_q rfl rfl (q_ix Try.underlying23 Z3 rfl rfl hq12 hr5.get) (o_q rfl rfl (q_lde (off := 0) Y3 rfl rfl (fun w h => R0.now Z h) hr5.get (fun _ _ h => h) rfl) (o_q rfl rfl (q_asg rfl) (o_q rfl rfl (q_asg rfl) (o_end ?_)))))))))
    refine za1 (c_seq (za0 (o_q rfl rfl (za2 rfl) (o_q rfl rfl (za2 rfl) (o_q rfl rfl (q_eql rfl rfl) (o_end (za1 (zaq _ rfl (fun hb13 => ?_) (fun hb13 => ?_)))))))))
    · skip
      replace h := br_t hb13 h
      refine c_seq (za0 (o_q rfl rfl (za2 rfl) (o_q rfl rfl (q_asg rfl) (o_end (za1 (c_ret (zat (zab (zab ?_)))))))))
      have e_ := si_ h; replace h := hR7; rw [← e_] at h; clear e_
      refine zat (zab ?_)
      have e0_ := si_ h; clear h
      subst e0_
      exact x_r1 () Try.results168 (zal rfl) rfl (fun w h => za5 [] dc_ rfl w h)
    · skip
      replace h := br_f hb13 h
      refine zam (zak (za1 (za0 (o_q rfl rfl (q_up rfl rfl (hr5.up hm6)) (o_q rfl rfl (za2 rfl) (o_end (zan ys3.length (ys3, i1 + 1) (by rw [← hk11]; exact Nat.lt_succ_self _) ⟨hr5.step, rfl, h⟩ ⟨rfl, trivial⟩ (fun w h => za5 [] dc_ rfl w h) ?_)))))))
      exact of_

def spec_plNumber.f (a0_0 : Int) (l0_1 : List SStep) (l0_2 : List Int) (l1 : List Int) (a2 : Int) : Option Int := if a2 < a0_0 then (some a2) else ((spec_plPlace.f l1 (w64 (a2 - a0_0))).bind fun i5 => some (w64 (a0_0 + i5)))
theorem spec_plNumber.calls {w0 ws : World} {P0 : Nat → Prop} (a0_0 : Int) (A0_1 : Option Addr) (c0_1 : Nat) (n0_1 : Nat) (l0_1 : List SStep) (A0_2 : Option Addr) (c0_2 : Nat) (n0_2 : Nat) (l0_2 : List Int) (A1 : Option Addr) (c1 : Nat) (n1 : Nat) (l1 : List Int) (a2 : Int) (Z : Below w0.heap.size w0 ws) (hF : Fr w0 ws P0 [] ws) (R0_1 : Stable ws P0 (fun w => Kd.C kStep w A0_1 n0_1 l0_1)) (hc0_1 : n0_1 ≤ c0_1) (R0_2 : Stable ws P0 (fun w => Kd.C (Kd.int .i64) w A0_2 n0_2 l0_2)) (hc0_2 : n0_2 ≤ c0_2) (R1 : Stable ws P0 (fun w => Kd.C (Kd.int .i64) w A1 n1 l1)) (hc1 : n1 ≤ c1) (r_1 : Int) (h : spec_plNumber.f a0_0 l0_1 l0_2 l1 a2 = some r_1) :
    Calls Try.prog 160 #[.agg #[.int .i64 a0_0, .slice A0_1 n0_1 c0_1, .slice A0_2 n0_2 c0_2], .slice A1 n1 c1, .int .i64 a2] ws (Post1 w0 ws P0 (fun (_ : Unit) => .int .i64 r_1) (fun (_ : Unit) => [])) := by
  unfold spec_plNumber.f at h
  obtain rfl := (R0_1 ws (KeptB.refl _ _)).1
  obtain rfl := (R0_2 ws (KeptB.refl _ _)).1
  obtain rfl := (R1 ws (KeptB.refl _ _)).1
  refine enter Try.func160 rfl Try.ntmps160 rfl hF (c_seq (za0 (o_e rfl (e_box rfl) (fun g1 => o_q rfl rfl (q_asg rfl) (o_end (za1 (c_seq (c_seq (za0 ?_)))))))))
  refine o_q rfl rfl (za2 rfl) (o_q rfl rfl (q_f F25_0 rfl) (o_q rfl rfl (q_ldb Y3 rfl (fun w h => h.za9 (i := 0) rfl) rfl) (o_q rfl rfl (q_lss rfl rfl) (o_end (za1 (zaq _ rfl (fun hb3 => ?_) (fun hb3 => ?_)))))))
  · skip
    replace h := br_t hb3 h
    refine c_seq (za0 (o_q rfl rfl (za2 rfl) (o_q rfl rfl (q_asg rfl) (o_end (za1 (c_ret (zab ?_)))))))
    have e0_ := si_ h; clear h
    subst e0_
    exact x_r1 () Try.results160 (zal rfl) rfl (fun w h => za5 [] dc_ rfl w h)
  · skip
    replace h := br_f hb3 h
    refine zam (za1 (c_seq (a_start (ds := []) MO rfl (za4 0 rfl rfl rfl kr_ (fun _ _ _ h => h) (q_f F25_0 rfl) (zau 1 rfl rfl rfl kr_ (fun _ _ _ h => h) (fun w h => h) (q_ldb Y3 rfl (fun w h => h.za9 (i := 0) rfl) rfl) (za4 2 rfl rfl rfl kr_ (fun _ _ _ h => h) (za2 rfl) (za4 3 rfl rfl rfl kr_ (fun _ _ _ h => h) (za2 rfl) (za4 4 rfl rfl rfl kr_ (fun _ _ _ h => h) (q_f F25_0 rfl) (zau 5 rfl rfl rfl kr_ (fun _ _ _ h => h) (fun w h => h) (q_ldb Y3 rfl (fun w h => h.za9 (i := 0) rfl) rfl) ?_)))))))))
    refine za4 6 rfl rfl rfl kr_ (fun _ _ _ h => h) (zb1 rfl rfl) (za7 h (fun i5 hx4 h => ?_) rfl)
    refine a_one 7 rfl rfl kr_ rfl (za6 0 Z Try.func168 N168 rfl rfl rfl (fun w P1 hF hB hS hT => spec_plPlace.calls A1 c1 l1.length l1 (w64 (a2 - a0_0)) hB hF (hS _ R1) hc1 _ hx4)) (fun s w h => h) (fun _ => za4 8 rfl rfl rfl kr_ (fun _ _ _ h => h) (zb0 rfl rfl) (za4 9 rfl rfl rfl kr_ (fun _ _ _ h => h) (q_asg rfl) (zao kr_ (za1 (c_ret ?_)))))
    have e0_ := si_ h; clear h
    subst e0_
    exact x_r1 () Try.results160 (zal rfl) rfl (fun w h => za5 [] dc_ rfl w h)

def spec_plKeep.l1 (a0_0 : Int) (l0_1 : List SStep) (l0_2 : List Int) (l1 : List Int) : (List Int) → (List Int) → Int → Option (List Int)
  | [], l23, i26 => some l23
  | y27 :: ys28, l23, i26 => (spec_plNumber.f a0_0 l0_1 l0_2 l1 y27).bind fun i340 => (ap l23 ([i340] : List Int)).bind fun l459 => spec_plKeep.l1 a0_0 l0_1 l0_2 l1 ys28 l459 (i26 + 1)
def spec_plKeep.l0 (a0_0 : Int) (l0_1 : List SStep) (l0_2 : List Int) (l1 : List Int) : (List Int) → (List SStep) → Int → Option (List SStep)
  | [], l8, i11 => some l8
  | y12 :: ys13, l8, i11 => (gt l0_1 y12).bind fun y702 => (spec_plNumber.f a0_0 l0_1 l0_2 l1 y702.f0).bind fun i1067 => (spec_plNumber.f a0_0 l0_1 l0_2 l1 y702.f1).bind fun i1367 => (spec_plStep.f i1067 i1367).bind fun z1427 => (ap l8 ([z1427] : List SStep)).bind fun l1546 => spec_plKeep.l0 a0_0 l0_1 l0_2 l1 ys13 l1546 (i11 + 1)
def spec_plKeep.f (a0_0 : Int) (l0_1 : List SStep) (l0_2 : List Int) (l1 : List Int) : Option ((List SStep) × (List Int)) := (spec_plKeep.l0 a0_0 l0_1 l0_2 l1 l1 ([] : List SStep) 0).bind fun l8 => (spec_plKeep.l1 a0_0 l0_1 l0_2 l1 l0_2 ([] : List Int) 0).bind fun l23 => some (l8, l23)
theorem spec_plKeep.calls {w0 ws : World} {P0 : Nat → Prop} (a0_0 : Int) (A0_1 : Option Addr) (c0_1 : Nat) (n0_1 : Nat) (l0_1 : List SStep) (A0_2 : Option Addr) (c0_2 : Nat) (n0_2 : Nat) (l0_2 : List Int) (A1 : Option Addr) (c1 : Nat) (n1 : Nat) (l1 : List Int) (Z : Below w0.heap.size w0 ws) (hF : Fr w0 ws P0 [] ws) (R0_1 : Stable ws P0 (fun w => Kd.C kStep w A0_1 n0_1 l0_1)) (hc0_1 : n0_1 ≤ c0_1) (R0_2 : Stable ws P0 (fun w => Kd.C (Kd.int .i64) w A0_2 n0_2 l0_2)) (hc0_2 : n0_2 ≤ c0_2) (R1 : Stable ws P0 (fun w => Kd.C (Kd.int .i64) w A1 n1 l1)) (hc1 : n1 ≤ c1) (r_1 : List SStep) (r_4 : List Int) (h : spec_plKeep.f a0_0 l0_1 l0_2 l1 = some (r_1, r_4)) :
    Calls Try.prog 147 #[.agg #[.int .i64 a0_0, .slice A0_1 n0_1 c0_1, .slice A0_2 n0_2 c0_2], .slice A1 n1 c1] ws (Post1 w0 ws P0 (fun ((q_2, q_3, q_5, q_6) : (Option Addr) × Nat × (Option Addr) × Nat) => .agg #[.int .i64 a0_0, .slice q_2 r_1.length q_3, .slice q_5 r_4.length q_6]) (fun ((q_2, q_3, q_5, q_6) : (Option Addr) × Nat × (Option Addr) × Nat) => [row kStep 107 (.slice q_2 r_1.length q_3) r_1, row (Kd.int .i64) 3 (.slice q_5 r_4.length q_6) r_4])) := by
  unfold spec_plKeep.f at h
  obtain rfl := (R0_1 ws (KeptB.refl _ _)).1
  obtain rfl := (R0_2 ws (KeptB.refl _ _)).1
  obtain rfl := (R1 ws (KeptB.refl _ _)).1
  refine enter Try.func147 rfl Try.ntmps147 rfl hF (c_seq (za0 (o_e rfl (e_box rfl) (fun g1 => o_e rfl (zaf V25 rfl) (fun g3 => o_end (za1 (c_seq (za0 (o_q rfl rfl (q_f F25_0 rfl) ?_)))))))))
  refine o_q rfl rfl (q_ldb Y3 rfl (fun w h => h.za9 (i := 1) rfl) rfl) (o_q rfl rfl (q_build (vs := [(0, .int .i64 a0_0)]) (cs := [.int .i64 a0_0, .slice none 0 0, .slice none 0 0]) rfl rfl) (o_e rfl (zaf V25 rfl) (fun g5 => o_e rfl (zah (i := 0) rfl rfl rfl Z25 rfl rfl) (fun _ => o_end (za1 (c_seq (c_seq (za0 (o_q rfl rfl (za2 rfl) ?_)))))))))
  refine o_q rfl rfl (q_len Try.underlying23 rfl) (o_q rfl rfl (za2 rfl) (o_end (za1 (zai (c_nil kStep 107 (za7 h (fun o19 hl18 hR17 => ?_) rfl))))))
  clear h
  refine c_fact (p := l1.length ≤ 9223372036854775807) (fun w h => (R1.now Z h).2.1) (fun hm16 => zaw (σ := (List Int) × (List SStep) × Int × (Option Addr) × Nat) (fun k14 ((ys13, l8, i11, A9, c10) : (List Int) × (List SStep) × Int × (Option Addr) × Nat) => Rg l1 i11 ys13 ∧ ys13.length = k14 ∧ spec_plKeep.l0 a0_0 l0_1 l0_2 l1 ys13 l8 i11 = some o19) [7, 8, 16, 17, 18, 19, 20, 21, 22, 23, 24, 25, 26, 27, 28, 29, 30, 31, 32, 33, 34, 35, 36, 37, 38, 39, 40, 41] (fun ((ys13, l8, i11, A9, c10) : (List Int) × (List SStep) × Int × (Option Addr) × Nat) => [(16, .int .i64 i11)]) (fun ((ys13, l8, i11, A9, c10) : (List Int) × (List SStep) × Int × (Option Addr) × Nat) => [row kStep 107 (.slice A9 l8.length c10) l8, box g5 25 #[.int .i64 a0_0, .slice A9 l8.length c10, .slice none 0 0], box g3 25 #[.int .i64 0, .slice none 0 0, .slice none 0 0], box g1 25 #[.int .i64 a0_0, .slice A0_1 l0_1.length c0_1, .slice A0_2 l0_2.length c0_2]]) l1.length (l1, ([] : List SStep), 0, none, 0) ⟨Rg.start _, rfl, hl18⟩ ⟨rfl, trivial⟩ (fun w h => h) (fun k14 => cur5 (listC (fun l8 i11 A9 c10 U20 hJ_ => ?_) (fun y12 ys13 l8 i11 A9 c10 U20 hJ_ => ?_))))
  · skip
    clear hl18
    have hr15 := hJ_.1; have hk21 := hJ_.2.1; have h := hJ_.2.2; clear hJ_
    replace h : spec_plKeep.l0 a0_0 l0_1 l0_2 l1 [] l8 i11 = some o19 := h
    rw [spec_plKeep.l0] at h
    refine c_seq (za0 (o_q rfl rfl (q_lss rfl rfl) (o_end (za1 (c_seq (c_false (vb_ hr15.ge) (zb2 (za8 (za8 ?_)))))))))
    have e_ := si_ h; replace h := hR17; rw [← e_] at h; clear e_
    refine x_hit (za1 (c_seq (c_seq (za0 (o_q rfl rfl (q_f F25_2 rfl) (o_q rfl rfl (q_ldb Y23 rfl (fun w h => h.za9 (i := 3) rfl) rfl) (o_q rfl rfl (q_len Try.underlying23 rfl) (o_q rfl rfl (za2 rfl) (o_end ?_)))))))))
    refine za1 (zai (c_nil (Kd.int .i64) 3 (za7 h (fun o34 hl33 hR32 => ?_) rfl)))
    clear h
    refine c_fact (p := l0_2.length ≤ 9223372036854775807) (fun w h => (R0_2.now Z h).2.1) (fun hm31 => zaw (σ := (List Int) × (List Int) × Int × (Option Addr) × Nat) (fun k29 ((ys28, l23, i26, A24, c25) : (List Int) × (List Int) × Int × (Option Addr) × Nat) => Rg l0_2 i26 ys28 ∧ ys28.length = k29 ∧ spec_plKeep.l1 a0_0 l0_1 l0_2 l1 ys28 l23 i26 = some o34) [10, 45, 46, 47, 48, 49, 50, 51, 52, 53, 54, 55, 56, 57, 58] (fun ((ys28, l23, i26, A24, c25) : (List Int) × (List Int) × Int × (Option Addr) × Nat) => [(45, .int .i64 i26)]) (fun ((ys28, l23, i26, A24, c25) : (List Int) × (List Int) × Int × (Option Addr) × Nat) => [row (Kd.int .i64) 3 (.slice A24 l23.length c25) l23, row kStep 107 (.slice A9 l8.length c10) l8, box g5 25 #[.int .i64 a0_0, .slice A9 l8.length c10, .slice A24 l23.length c25], box g3 25 #[.int .i64 0, .slice none 0 0, .slice none 0 0], box g1 25 #[.int .i64 a0_0, .slice A0_1 l0_1.length c0_1, .slice A0_2 l0_2.length c0_2]]) l0_2.length (l0_2, ([] : List Int), 0, none, 0) ⟨Rg.start _, rfl, hl33⟩ ⟨rfl, trivial⟩ (fun w h => h) (fun k29 => cur5 (listC (fun l23 i26 A24 c25 U35 hJ_ => ?_) (fun y27 ys28 l23 i26 A24 c25 U35 hJ_ => ?_))))
    · skip
      clear hl33
      have hr30 := hJ_.1; have hk36 := hJ_.2.1; have h := hJ_.2.2; clear hJ_
      replace h : spec_plKeep.l1 a0_0 l0_1 l0_2 l1 [] l23 i26 = some o34 := h
      rw [spec_plKeep.l1] at h
      refine c_seq (za0 (o_q rfl rfl (q_lss rfl rfl) (o_end (za1 (c_seq (c_false (vb_ hr30.ge) (zb2 (za8 (za8 ?_)))))))))
      have e_ := si_ h; replace h := hR32; rw [← e_] at h; clear e_
      refine x_hit (za1 (c_seq (za0 (o_q rfl rfl (q_ldB G25 Z25 rfl (fun w h => h.za9 (i := 2) rfl) rfl) (o_e rfl (zah (i := 3) rfl rfl rfl Z25 rfl rfl) (fun _ => o_end (za1 (c_ret ?_))))))))
      have e0_ := si_ h; clear h
      obtain ⟨rfl, e1_⟩ := Prod.mk.inj e0_
      subst e1_
      exact x_r1 (A9, c10, A24, c25) Try.results147 (zb5 rfl G25 Z25 (fun w h => h.za9 (i := 3) rfl) rfl) rfl (fun w h => za5 [1, 0] dc_ rfl w h)
    · skip
      clear hl33
      have hr30 := hJ_.1; have hk36 := hJ_.2.1; have h := hJ_.2.2; clear hJ_
      replace h : spec_plKeep.l1 a0_0 l0_1 l0_2 l1 (y27 :: ys28) l23 i26 = some o34 := h
      rw [spec_plKeep.l1] at h
      refine c_seq (za0 (o_q rfl rfl (q_lss rfl rfl) (o_end (za1 (c_seq (zb8 (vb_ hr30.lt) (zam (za1 (c_seq ?_)))))))))
      refine zai (c_seq (za0 (zb4 (p := Sh A0_2 l0_2.length l0_2.length) (fun w h => f_sh (dk := (Kd.int .i64)) h (fun w h => R0_2.now Z h)) (fun hq37 => o_q rfl rfl (q_ix Try.underlying23 Z3 rfl rfl hq37 hr30.get) (o_q rfl rfl (q_lde (off := 0) Y3 rfl rfl (fun w h => R0_2.now Z h) hr30.get (fun _ _ h => h) rfl) (o_q rfl rfl (q_asg rfl) (o_end (za1 (za7 h (fun i340 hx339 h => ?_) rfl)))))))))
      refine za7 h (fun l459 ha460 h => ?_) rfl
      refine a_startS (ds := []) [none, some 1, none, some 3, some 4] MO rfl (za4 0 rfl rfl rfl kr_ (fun _ _ _ h => h) (q_f F25_2 rfl) (zau 2 rfl rfl rfl kr_ (fun _ _ _ h => h) (fun w h => za3 [none, some 1, none, some 3, some 4] dc_ w h rfl) (q_ldB G25 Z25 rfl (fun w h => h.za9 (i := 4) rfl) rfl) (za4 3 rfl rfl rfl kr_ (fun _ _ _ h => h) (za2 rfl) (za4 4 rfl rfl rfl kr_ (fun _ _ _ h => h) (za2 rfl) (a_two 1 5 rfl rfl rfl rfl kr_ rfl rfl (ev_q rfl (q_ldb Y23 rfl (fun w h => h.za9 (i := 2) rfl) rfl)) (fun s w h => za3 [none, some 1, none, some 3, some 4] dc_ w h rfl) (za6 0 Z Try.func160 N160 rfl rfl rfl (fun w P1 hF hB hS hT => spec_plNumber.calls a0_0 A0_1 c0_1 l0_1.length l0_1 A0_2 c0_2 l0_2.length l0_2 A1 c1 l1.length l1 y27 hB hF (hS _ R0_1) hc0_1 (hS _ R0_2) hc0_2 (hS _ R1) hc1 _ hx339)) (fun s w h => za3 [none, some 1, none, some 3, some 4] dc_ w h rfl) (fun _ => ?_) (fun _ => ?_))))))
      · skip
        refine a_one 5 rfl rfl kr_ rfl (za6 0 Z Try.func160 N160 rfl rfl rfl (fun w P1 hF hB hS hT => spec_plNumber.calls a0_0 A0_1 c0_1 l0_1.length l0_1 A0_2 c0_2 l0_2.length l0_2 A1 c1 l1.length l1 y27 hB hF (hS _ R0_1) hc0_1 (hS _ R0_2) hc0_2 (hS _ R1) hc1 _ hx339)) (fun s w h => za3 [none, some 1, none, some 3, some 4] dc_ w h rfl) (fun _ => a_one 6 rfl rfl kr_ rfl (e_lit (vs := [(0, .int .i64 i340)]) (cs := [.int .i64 i340]) (Kd.int .i64) ([i340] : List Int) Try.underlying23 I3 dc_ rfl dc_ rfl rfl (fun _ _ => Kd.zad _)) (fun s w h => za3 [none, some 2, none, some 4, some 5] dc_ w h rfl) (cur2 (fun A399 c400 => a_one 7 rfl rfl kr_ rfl (e_app (i := 1) (j := 0) Try.underlying23 I3 rfl dc_ dc_ rfl rfl rfl rfl rfl ha460) (fun s w h => za3 [none, some 2, none, some 4, some 5] dc_ w h rfl) (cur2 (fun A461 c462 => za4 8 rfl rfl rfl kr_ (fun _ _ _ h => h) (q_f F25_2 rfl) (a_one 9 rfl rfl kr_ rfl (zac (i := 3) rfl rfl rfl rfl Z23 rfl rfl) (fun s w h => za3 [none, some 2, none, some 4, some 5] dc_ w h rfl) (fun _ => zao kr_ (zak (za1 (za0 (o_q rfl rfl (q_up rfl rfl (hr30.up hm31)) ?_)))))))))))
        refine o_q rfl rfl (za2 rfl) (o_end (zan ys28.length (ys28, l459, i26 + 1, A461, c462) (by rw [← hk36]; exact Nat.lt_succ_self _) ⟨hr30.step, rfl, h⟩ ⟨rfl, trivial⟩ (fun w h => za5 [1, 2, 3, 4, 5] dc_ rfl w h) ?_))
        exact of_
      · skip
        refine a_two 1 6 rfl rfl rfl rfl kr_ rfl rfl (ev_q rfl (q_ldb Y23 rfl (fun w h => h.za9 (i := 2) rfl) rfl)) (fun s w h => za3 [none, some 1, none, some 3, some 4] dc_ w h rfl) (e_lit (vs := [(0, .int .i64 i340)]) (cs := [.int .i64 i340]) (Kd.int .i64) ([i340] : List Int) Try.underlying23 I3 dc_ rfl dc_ rfl rfl (fun _ _ => Kd.zad _)) (fun s w h => za3 [none, some 2, none, some 4, some 5] dc_ w h rfl) (fun _ => ?_) (cur2 (fun A399 c400 => ?_))
        · skip
          refine a_one 6 rfl rfl kr_ rfl (e_lit (vs := [(0, .int .i64 i340)]) (cs := [.int .i64 i340]) (Kd.int .i64) ([i340] : List Int) Try.underlying23 I3 dc_ rfl dc_ rfl rfl (fun _ _ => Kd.zad _)) (fun s w h => za3 [none, some 2, none, some 4, some 5] dc_ w h rfl) (cur2 (fun A399 c400 => a_one 7 rfl rfl kr_ rfl (e_app (i := 1) (j := 0) Try.underlying23 I3 rfl dc_ dc_ rfl rfl rfl rfl rfl ha460) (fun s w h => za3 [none, some 2, none, some 4, some 5] dc_ w h rfl) (cur2 (fun A461 c462 => za4 8 rfl rfl rfl kr_ (fun _ _ _ h => h) (q_f F25_2 rfl) (a_one 9 rfl rfl kr_ rfl (zac (i := 3) rfl rfl rfl rfl Z23 rfl rfl) (fun s w h => za3 [none, some 2, none, some 4, some 5] dc_ w h rfl) (fun _ => zao kr_ (zak (za1 (za0 (o_q rfl rfl (q_up rfl rfl (hr30.up hm31)) (o_q rfl rfl (za2 rfl) ?_)))))))))))
          refine o_end (zan ys28.length (ys28, l459, i26 + 1, A461, c462) (by rw [← hk36]; exact Nat.lt_succ_self _) ⟨hr30.step, rfl, h⟩ ⟨rfl, trivial⟩ (fun w h => za5 [1, 2, 3, 4, 5] dc_ rfl w h) ?_)
          exact of_
        · skip
          refine a_one 1 rfl rfl kr_ rfl (ev_q rfl (q_ldb Y23 rfl (fun w h => h.za9 (i := 3) rfl) rfl)) (fun s w h => za3 [none, some 2, none, some 4, some 5] dc_ w h rfl) (fun _ => a_one 7 rfl rfl kr_ rfl (e_app (i := 1) (j := 0) Try.underlying23 I3 rfl dc_ dc_ rfl rfl rfl rfl rfl ha460) (fun s w h => za3 [none, some 2, none, some 4, some 5] dc_ w h rfl) (cur2 (fun A461 c462 => za4 8 rfl rfl rfl kr_ (fun _ _ _ h => h) (q_f F25_2 rfl) (a_one 9 rfl rfl kr_ rfl (zac (i := 3) rfl rfl rfl rfl Z23 rfl rfl) (fun s w h => za3 [none, some 2, none, some 4, some 5] dc_ w h rfl) (fun _ => zao kr_ (zak (za1 (za0 (o_q rfl rfl (q_up rfl rfl (hr30.up hm31)) (o_q rfl rfl (za2 rfl) ?_))))))))))
          refine o_end (zan ys28.length (ys28, l459, i26 + 1, A461, c462) (by rw [← hk36]; exact Nat.lt_succ_self _) ⟨hr30.step, rfl, h⟩ ⟨rfl, trivial⟩ (fun w h => za5 [1, 2, 3, 4, 5] dc_ rfl w h) ?_)
          exact of_
  · skip
    clear hl18
    have hr15 := hJ_.1; have hk21 := hJ_.2.1; have h := hJ_.2.2; clear hJ_
    replace h : spec_plKeep.l0 a0_0 l0_1 l0_2 l1 (y12 :: ys13) l8 i11 = some o19 := h
    rw [spec_plKeep.l0] at h
    refine c_seq (za0 (o_q rfl rfl (q_lss rfl rfl) (o_end (za1 (c_seq (zb8 (vb_ hr15.lt) (zam (za1 (c_seq ?_)))))))))
    refine zai (c_seq (za0 (zb4 (p := Sh A1 l1.length l1.length) (fun w h => f_sh (dk := (Kd.int .i64)) h (fun w h => R1.now Z h)) (fun hq699 => o_q rfl rfl (q_ix Try.underlying23 Z3 rfl rfl hq699 hr15.get) (o_q rfl rfl (q_lde (off := 0) Y3 rfl rfl (fun w h => R1.now Z h) hr15.get (fun _ _ h => h) rfl) (o_q rfl rfl (q_asg rfl) (o_end (za1 (c_seq ?_)))))))))
    refine za0 (o_q rfl rfl (q_f F25_1 rfl) (o_q rfl rfl (q_ldb Y22 rfl (fun w h => h.za9 (i := 3) rfl) rfl) (o_q rfl rfl (za2 rfl) (zb4 (p := Sh A0_1 l0_1.length l0_1.length) (fun w h => f_sh (dk := kStep) h (fun w h => R0_1.now Z h)) (fun hq700 => za7 h (fun y702 hg701 h => ?_) rfl)))))
    refine o_q rfl rfl (q_ix Try.underlying22 Z107 rfl rfl hq700 hg701) (o_q rfl rfl (q_ldE G107 Z107 rfl rfl (fun w h => R0_1.now Z h) hg701 (fun _ _ h => h) rfl) (o_e rfl (zaf V107 rfl) (fun g703 => o_e rfl (zah (i := 0) rfl rfl rfl Z107 rfl rfl) (fun _ => o_end (za1 (za7 h (fun i1067 hx1066 h => ?_) rfl))))))
    refine za7 h (fun i1367 hx1366 h => ?_) rfl
    refine za7 h (fun z1427 hx1426 h => ?_) rfl
    refine za7 h (fun l1546 ha1547 h => ?_) rfl
    refine a_startS (ds := []) [some 0, none, none, some 3, some 4] MO rfl (za4 0 rfl rfl rfl kr_ (fun _ _ _ h => h) (q_f F25_1 rfl) (zau 2 rfl rfl rfl kr_ (fun _ _ _ h => h) (fun w h => za3 [some 0, none, none, some 3, some 4] dc_ w h rfl) (q_ldB G25 Z25 rfl (fun w h => h.za9 (i := 4) rfl) rfl) (za4 3 rfl rfl rfl kr_ (fun _ _ _ h => h) (za2 rfl) (za4 4 rfl rfl rfl kr_ (fun _ _ _ h => h) (q_f F107_0 rfl) (zau 5 rfl rfl rfl kr_ (fun _ _ _ h => h) (fun w h => za3 [some 0, none, none, some 3, some 4] dc_ w h rfl) (q_ldb Y3 rfl (fun w h => h.za9 (i := 0) rfl) rfl) (zau 7 rfl rfl rfl kr_ (fun _ _ _ h => h) (fun w h => za3 [some 0, none, none, some 3, some 4] dc_ w h rfl) (q_ldB G25 Z25 rfl (fun w h => h.za9 (i := 4) rfl) rfl) (za4 8 rfl rfl rfl kr_ (fun _ _ _ h => h) (za2 rfl) (za4 9 rfl rfl rfl kr_ (fun _ _ _ h => h) (q_f F107_1 rfl) (zau 10 rfl rfl rfl kr_ (fun _ _ _ h => h) (fun w h => za3 [some 0, none, none, some 3, some 4] dc_ w h rfl) (q_ldb Y3 rfl (fun w h => h.za9 (i := 0) rfl) rfl) ?_)))))))))
    refine a_two 1 6 rfl rfl rfl rfl kr_ rfl rfl (ev_q rfl (q_ldb Y22 rfl (fun w h => h.za9 (i := 2) rfl) rfl)) (fun s w h => za3 [some 0, none, none, some 3, some 4] dc_ w h rfl) (za6 0 Z Try.func160 N160 rfl rfl rfl (fun w P1 hF hB hS hT => spec_plNumber.calls a0_0 A0_1 c0_1 l0_1.length l0_1 A0_2 c0_2 l0_2.length l0_2 A1 c1 l1.length l1 y702.f0 hB hF (hS _ R0_1) hc0_1 (hS _ R0_2) hc0_2 (hS _ R1) hc1 _ hx1066)) (fun s w h => za3 [some 0, none, none, some 3, some 4] dc_ w h rfl) (fun _ => ?_) (fun _ => ?_)
    · skip
      refine a_one 6 rfl rfl kr_ rfl (za6 0 Z Try.func160 N160 rfl rfl rfl (fun w P1 hF hB hS hT => spec_plNumber.calls a0_0 A0_1 c0_1 l0_1.length l0_1 A0_2 c0_2 l0_2.length l0_2 A1 c1 l1.length l1 y702.f0 hB hF (hS _ R0_1) hc0_1 (hS _ R0_2) hc0_2 (hS _ R1) hc1 _ hx1066)) (fun s w h => za3 [some 0, none, none, some 3, some 4] dc_ w h rfl) (fun _ => a_one 11 rfl rfl kr_ rfl (za6 0 Z Try.func160 N160 rfl rfl rfl (fun w P1 hF hB hS hT => spec_plNumber.calls a0_0 A0_1 c0_1 l0_1.length l0_1 A0_2 c0_2 l0_2.length l0_2 A1 c1 l1.length l1 y702.f1 hB hF (hS _ R0_1) hc0_1 (hS _ R0_2) hc0_2 (hS _ R1) hc1 _ hx1366)) (fun s w h => za3 [some 0, none, none, some 3, some 4] dc_ w h rfl) (fun _ => a_one 12 rfl rfl kr_ rfl (za6 0 Z Try.func146 N146 rfl rfl rfl (fun w P1 hF hB hS hT => spec_plStep.calls i1067 i1367 hB hF _ hx1426)) (fun s w h => za3 [some 0, none, none, some 3, some 4] dc_ w h rfl) (fun _ => a_one 13 rfl rfl kr_ rfl (e_lit (vs := [(0, .agg #[.int .i64 z1427.f0, .int .i64 z1427.f1])]) (cs := [.int .i64 z1427.f0, .int .i64 z1427.f1]) kStep ([z1427] : List SStep) Try.underlying22 I107 dc_ rfl dc_ rfl rfl (fun _ _ => reps_flat _)) (fun s w h => za3 [some 1, none, none, some 4, some 5] dc_ w h rfl) (cur2 (fun A1486 c1487 => a_one 14 rfl rfl kr_ rfl (e_app (i := 2) (j := 0) Try.underlying22 I107 rfl dc_ dc_ rfl rfl rfl rfl rfl ha1547) (fun s w h => za3 [some 1, none, none, some 4, some 5] dc_ w h rfl) (cur2 (fun A1548 c1549 => za4 15 rfl rfl rfl kr_ (fun _ _ _ h => h) (q_f F25_1 rfl) (a_one 16 rfl rfl kr_ rfl (zac (i := 3) rfl rfl rfl rfl Z22 rfl rfl) (fun s w h => za3 [some 1, none, none, some 4, some 5] dc_ w h rfl) (fun _ => zao kr_ (zak (za1 ?_)))))))))))
      refine za0 (o_q rfl rfl (q_up rfl rfl (hr15.up hm16)) (o_q rfl rfl (za2 rfl) (o_end (zan ys13.length (ys13, l1546, i11 + 1, A1548, c1549) (by rw [← hk21]; exact Nat.lt_succ_self _) ⟨hr15.step, rfl, h⟩ ⟨rfl, trivial⟩ (fun w h => za5 [2, 3, 4, 5] dc_ rfl w h) ?_))))
      exact of_
    · skip
      refine a_two 1 11 rfl rfl rfl rfl kr_ rfl rfl (ev_q rfl (q_ldb Y22 rfl (fun w h => h.za9 (i := 2) rfl) rfl)) (fun s w h => za3 [some 0, none, none, some 3, some 4] dc_ w h rfl) (za6 0 Z Try.func160 N160 rfl rfl rfl (fun w P1 hF hB hS hT => spec_plNumber.calls a0_0 A0_1 c0_1 l0_1.length l0_1 A0_2 c0_2 l0_2.length l0_2 A1 c1 l1.length l1 y702.f1 hB hF (hS _ R0_1) hc0_1 (hS _ R0_2) hc0_2 (hS _ R1) hc1 _ hx1366)) (fun s w h => za3 [some 0, none, none, some 3, some 4] dc_ w h rfl) (fun _ => ?_) (fun _ => ?_)
      · skip
        refine a_one 11 rfl rfl kr_ rfl (za6 0 Z Try.func160 N160 rfl rfl rfl (fun w P1 hF hB hS hT => spec_plNumber.calls a0_0 A0_1 c0_1 l0_1.length l0_1 A0_2 c0_2 l0_2.length l0_2 A1 c1 l1.length l1 y702.f1 hB hF (hS _ R0_1) hc0_1 (hS _ R0_2) hc0_2 (hS _ R1) hc1 _ hx1366)) (fun s w h => za3 [some 0, none, none, some 3, some 4] dc_ w h rfl) (fun _ => a_one 12 rfl rfl kr_ rfl (za6 0 Z Try.func146 N146 rfl rfl rfl (fun w P1 hF hB hS hT => spec_plStep.calls i1067 i1367 hB hF _ hx1426)) (fun s w h => za3 [some 0, none, none, some 3, some 4] dc_ w h rfl) (fun _ => a_one 13 rfl rfl kr_ rfl (e_lit (vs := [(0, .agg #[.int .i64 z1427.f0, .int .i64 z1427.f1])]) (cs := [.int .i64 z1427.f0, .int .i64 z1427.f1]) kStep ([z1427] : List SStep) Try.underlying22 I107 dc_ rfl dc_ rfl rfl (fun _ _ => reps_flat _)) (fun s w h => za3 [some 1, none, none, some 4, some 5] dc_ w h rfl) (cur2 (fun A1486 c1487 => a_one 14 rfl rfl kr_ rfl (e_app (i := 2) (j := 0) Try.underlying22 I107 rfl dc_ dc_ rfl rfl rfl rfl rfl ha1547) (fun s w h => za3 [some 1, none, none, some 4, some 5] dc_ w h rfl) (cur2 (fun A1548 c1549 => za4 15 rfl rfl rfl kr_ (fun _ _ _ h => h) (q_f F25_1 rfl) (a_one 16 rfl rfl kr_ rfl (zac (i := 3) rfl rfl rfl rfl Z22 rfl rfl) (fun s w h => za3 [some 1, none, none, some 4, some 5] dc_ w h rfl) (fun _ => zao kr_ (zak (za1 (za0 ?_)))))))))))
        refine o_q rfl rfl (q_up rfl rfl (hr15.up hm16)) (o_q rfl rfl (za2 rfl) (o_end (zan ys13.length (ys13, l1546, i11 + 1, A1548, c1549) (by rw [← hk21]; exact Nat.lt_succ_self _) ⟨hr15.step, rfl, h⟩ ⟨rfl, trivial⟩ (fun w h => za5 [2, 3, 4, 5] dc_ rfl w h) ?_)))
        exact of_
      · skip
        refine a_two 1 12 rfl rfl rfl rfl kr_ rfl rfl (ev_q rfl (q_ldb Y22 rfl (fun w h => h.za9 (i := 2) rfl) rfl)) (fun s w h => za3 [some 0, none, none, some 3, some 4] dc_ w h rfl) (za6 0 Z Try.func146 N146 rfl rfl rfl (fun w P1 hF hB hS hT => spec_plStep.calls i1067 i1367 hB hF _ hx1426)) (fun s w h => za3 [some 0, none, none, some 3, some 4] dc_ w h rfl) (fun _ => ?_) (fun _ => ?_)
        · skip
          refine a_one 12 rfl rfl kr_ rfl (za6 0 Z Try.func146 N146 rfl rfl rfl (fun w P1 hF hB hS hT => spec_plStep.calls i1067 i1367 hB hF _ hx1426)) (fun s w h => za3 [some 0, none, none, some 3, some 4] dc_ w h rfl) (fun _ => a_one 13 rfl rfl kr_ rfl (e_lit (vs := [(0, .agg #[.int .i64 z1427.f0, .int .i64 z1427.f1])]) (cs := [.int .i64 z1427.f0, .int .i64 z1427.f1]) kStep ([z1427] : List SStep) Try.underlying22 I107 dc_ rfl dc_ rfl rfl (fun _ _ => reps_flat _)) (fun s w h => za3 [some 1, none, none, some 4, some 5] dc_ w h rfl) (cur2 (fun A1486 c1487 => a_one 14 rfl rfl kr_ rfl (e_app (i := 2) (j := 0) Try.underlying22 I107 rfl dc_ dc_ rfl rfl rfl rfl rfl ha1547) (fun s w h => za3 [some 1, none, none, some 4, some 5] dc_ w h rfl) (cur2 (fun A1548 c1549 => za4 15 rfl rfl rfl kr_ (fun _ _ _ h => h) (q_f F25_1 rfl) (a_one 16 rfl rfl kr_ rfl (zac (i := 3) rfl rfl rfl rfl Z22 rfl rfl) (fun s w h => za3 [some 1, none, none, some 4, some 5] dc_ w h rfl) (fun _ => zao kr_ (zak (za1 (za0 (o_q rfl rfl (q_up rfl rfl (hr15.up hm16)) ?_)))))))))))
          refine o_q rfl rfl (za2 rfl) (o_end (zan ys13.length (ys13, l1546, i11 + 1, A1548, c1549) (by rw [← hk21]; exact Nat.lt_succ_self _) ⟨hr15.step, rfl, h⟩ ⟨rfl, trivial⟩ (fun w h => za5 [2, 3, 4, 5] dc_ rfl w h) ?_))
          exact of_
        · skip
          refine a_two 1 13 rfl rfl rfl rfl kr_ rfl rfl (ev_q rfl (q_ldb Y22 rfl (fun w h => h.za9 (i := 2) rfl) rfl)) (fun s w h => za3 [some 0, none, none, some 3, some 4] dc_ w h rfl) (e_lit (vs := [(0, .agg #[.int .i64 z1427.f0, .int .i64 z1427.f1])]) (cs := [.int .i64 z1427.f0, .int .i64 z1427.f1]) kStep ([z1427] : List SStep) Try.underlying22 I107 dc_ rfl dc_ rfl rfl (fun _ _ => reps_flat _)) (fun s w h => za3 [some 1, none, none, some 4, some 5] dc_ w h rfl) (fun _ => ?_) (cur2 (fun A1486 c1487 => ?_))
          · skip
            refine a_one 13 rfl rfl kr_ rfl (e_lit (vs := [(0, .agg #[.int .i64 z1427.f0, .int .i64 z1427.f1])]) (cs := [.int .i64 z1427.f0, .int .i64 z1427.f1]) kStep ([z1427] : List SStep) Try.underlying22 I107 dc_ rfl dc_ rfl rfl (fun _ _ => reps_flat _)) (fun s w h => za3 [some 1, none, none, some 4, some 5] dc_ w h rfl) (cur2 (fun A1486 c1487 => a_one 14 rfl rfl kr_ rfl (e_app (i := 2) (j := 0) Try.underlying22 I107 rfl dc_ dc_ rfl rfl rfl rfl rfl ha1547) (fun s w h => za3 [some 1, none, none, some 4, some 5] dc_ w h rfl) (cur2 (fun A1548 c1549 => za4 15 rfl rfl rfl kr_ (fun _ _ _ h => h) (q_f F25_1 rfl) (a_one 16 rfl rfl kr_ rfl (zac (i := 3) rfl rfl rfl rfl Z22 rfl rfl) (fun s w h => za3 [some 1, none, none, some 4, some 5] dc_ w h rfl) (fun _ => zao kr_ (zak (za1 (za0 (o_q rfl rfl (q_up rfl rfl (hr15.up hm16)) (o_q rfl rfl (za2 rfl) ?_)))))))))))
            refine o_end (zan ys13.length (ys13, l1546, i11 + 1, A1548, c1549) (by rw [← hk21]; exact Nat.lt_succ_self _) ⟨hr15.step, rfl, h⟩ ⟨rfl, trivial⟩ (fun w h => za5 [2, 3, 4, 5] dc_ rfl w h) ?_)
            exact of_
          · skip
            refine a_one 1 rfl rfl kr_ rfl (ev_q rfl (q_ldb Y22 rfl (fun w h => h.za9 (i := 3) rfl) rfl)) (fun s w h => za3 [some 1, none, none, some 4, some 5] dc_ w h rfl) (fun _ => a_one 14 rfl rfl kr_ rfl (e_app (i := 2) (j := 0) Try.underlying22 I107 rfl dc_ dc_ rfl rfl rfl rfl rfl ha1547) (fun s w h => za3 [some 1, none, none, some 4, some 5] dc_ w h rfl) (cur2 (fun A1548 c1549 => za4 15 rfl rfl rfl kr_ (fun _ _ _ h => h) (q_f F25_1 rfl) (a_one 16 rfl rfl kr_ rfl (zac (i := 3) rfl rfl rfl rfl Z22 rfl rfl) (fun s w h => za3 [some 1, none, none, some 4, some 5] dc_ w h rfl) (fun _ => zao kr_ (zak (za1 (za0 (o_q rfl rfl (q_up rfl rfl (hr15.up hm16)) (o_q rfl rfl (za2 rfl) ?_))))))))))
            refine o_end (zan ys13.length (ys13, l1546, i11 + 1, A1548, c1549) (by rw [← hk21]; exact Nat.lt_succ_self _) ⟨hr15.step, rfl, h⟩ ⟨rfl, trivial⟩ (fun w h => za5 [2, 3, 4, 5] dc_ rfl w h) ?_)
            exact of_

def spec_meTrim.f (k : Nat) (a0_0 : Int) (l0_1 : List SStep) (l0_2 : List Int) : Option ((List SStep) × (List Int)) := (spec_plUsed.f k a0_0 l0_1 l0_2).bind fun l6 => (spec_plKeep.f a0_0 l0_1 l0_2 l6).bind fun (l10, l11) => some (l10, l11)
theorem spec_meTrim.calls (k : Nat) {w0 ws : World} {P0 : Nat → Prop} (a0_0 : Int) (A0_1 : Option Addr) (c0_1 : Nat) (n0_1 : Nat) (l0_1 : List SStep) (A0_2 : Option Addr) (c0_2 : Nat) (n0_2 : Nat) (l0_2 : List Int) (Z : Below w0.heap.size w0 ws) (hF : Fr w0 ws P0 [] ws) (R0_1 : Stable ws P0 (fun w => Kd.C kStep w A0_1 n0_1 l0_1)) (hc0_1 : n0_1 ≤ c0_1) (R0_2 : Stable ws P0 (fun w => Kd.C (Kd.int .i64) w A0_2 n0_2 l0_2)) (hc0_2 : n0_2 ≤ c0_2) (r_1 : List SStep) (r_4 : List Int) (h : spec_meTrim.f k a0_0 l0_1 l0_2 = some (r_1, r_4)) :
    Calls Try.prog 111 #[.agg #[.int .i64 a0_0, .slice A0_1 n0_1 c0_1, .slice A0_2 n0_2 c0_2]] ws (Post1 w0 ws P0 (fun ((q_2, q_3, q_5, q_6) : (Option Addr) × Nat × (Option Addr) × Nat) => .agg #[.int .i64 a0_0, .slice q_2 r_1.length q_3, .slice q_5 r_4.length q_6]) (fun ((q_2, q_3, q_5, q_6) : (Option Addr) × Nat × (Option Addr) × Nat) => [row kStep 107 (.slice q_2 r_1.length q_3) r_1, row (Kd.int .i64) 3 (.slice q_5 r_4.length q_6) r_4])) := by
  unfold spec_meTrim.f at h
  obtain rfl := (R0_1 ws (KeptB.refl _ _)).1
  obtain rfl := (R0_2 ws (KeptB.refl _ _)).1
  refine enter Try.func111 rfl Try.ntmps111 rfl hF (c_seq (za0 (o_e rfl (e_box rfl) (fun g1 => o_e rfl (zaf V25 rfl) (fun g3 => o_end (za1 (c_seq (a_startS (ds := []) [none, some 1] MO rfl (zau 0 rfl rfl rfl kr_ (fun _ _ _ h => h) (fun w h => za3 [none, some 1] dc_ w h rfl) (q_ldB G25 Z25 rfl (fun w h => h.za9 (i := 1) rfl) rfl) ?_)))))))))
  refine zau 1 rfl rfl rfl kr_ (fun _ _ _ h => h) (fun w h => za3 [none, some 1] dc_ w h rfl) (q_ldB G25 Z25 rfl (fun w h => h.za9 (i := 1) rfl) rfl) (za7 h (fun l6 hx5 h => ?_) rfl)
  refine a_one 2 rfl rfl kr_ rfl (za6 0 Z Try.func148 N148 rfl rfl rfl (fun w P1 hF hB hS hT => spec_plUsed.calls k a0_0 A0_1 c0_1 l0_1.length l0_1 A0_2 c0_2 l0_2.length l0_2 hB hF (hS _ R0_1) hc0_1 (hS _ R0_2) hc0_2 _ hx5)) (fun s w h => za3 [none, some 2] dc_ w h rfl) (cur2 (fun A7 c8 => bindE2 h (fun l10 l11 hx9 h => ?_) rfl))
  refine a_one 3 rfl rfl kr_ rfl (za6 0 Z Try.func147 N147 rfl rfl rfl (fun w P1 hF hB hS hT => spec_plKeep.calls a0_0 A0_1 c0_1 l0_1.length l0_1 A0_2 c0_2 l0_2.length l0_2 A7 c8 l6.length l6 hB hF (hS _ R0_1) hc0_1 (hS _ R0_2) hc0_2 (hT 0 _ rfl).row (hT 0 _ rfl).cap _ _ hx9)) (fun s w h => za3 [none, some 4] dc_ w h rfl) (cur4 (fun A12 c13 A14 c15 => a_one 4 rfl rfl kr_ rfl (zah (i := 3) rfl rfl rfl Z25 rfl rfl) (fun s w h => za3 [none, some 4] dc_ w h rfl) (fun _ => zao kr_ (za1 (c_ret ?_)))))
  have e0_ := si_ h; clear h
  obtain ⟨rfl, e1_⟩ := Prod.mk.inj e0_
  subst e1_
  exact x_r1 (A12, c13, A14, c15) Try.results111 (zb5 rfl G25 Z25 (fun w h => h.za9 (i := 3) rfl) rfl) rfl (fun w h => za5 [0, 1] dc_ rfl w h)

def spec_meWindow.l2 (a1 : Int) : Nat → (List SStep) → (List Int) → Int → Int → Option ((List SStep) × (List Int) × Int)
  | 0, _, _, _, _ => none
  | k70 + 1, l60, l63, i66, i67 => if i66 < a1 then ((spec_meTimes.f 1 l60 l63 i67 i67).bind fun l80 => spec_meWindow.l2 a1 k70 l80 [] (w64 (i66 + 1)) (w64 (1 + (l60.length : Int)))) else (some (l60, l63, i67))
def spec_meWindow.l1 (k : Nat) (a1 : Int) (l5 : List Int) : Nat → (List SStep) → (List Int) → Int → Int → Option ((List SStep) × (List Int) × Int)
  | 0, _, _, _, _ => none
  | k51 + 1, l41, l44, i47, i48 => if 0 ≤ i48 then ((spec_meWindow.l2 a1 k l41 l44 0 i47).bind fun (l60, l63, i67) => (gt l5 i48).bind fun y85 => if 0 < y85 then ((gt l5 i48).bind fun y88 => (spec_meTimes.f 1 l60 l63 i67 (w64 (y88 - 1))).bind fun l90 => spec_meWindow.l1 k a1 l5 k51 l90 [] (w64 (1 + (l60.length : Int))) (w64 (i48 - 1))) else (spec_meWindow.l1 k a1 l5 k51 l60 l63 i67 (w64 (i48 - 1)))) else (some (l41, l44, i47))
def spec_meWindow.l0 (l5 : List Int) : Nat → (List SStep) → (List Int) → Int → Int → Option ((List SStep) × (List Int))
  | 0, _, _, _, _ => none
  | k22 + 1, l12, l15, i18, i19 => (spec_meGreatest.f l5).bind fun i31 => if i19 ≤ i31 then ((spec_meTimes.f 1 l12 l15 i18 0).bind fun l34 => spec_meWindow.l0 l5 k22 l34 [] (w64 (1 + (l12.length : Int))) (w64 (i19 + 1))) else (some (l12, l15))
def spec_meWindow.f (k : Nat) (a0 : Int) (a1 : Int) : Option ((List SStep) × (List Int)) := (nn a1).bind fun _ => (spec_meDigits.f k a0 (IntKind.i64.wrap (1 * 2 ^ min (a1 : Int).toNat IntKind.i64.bits))).bind fun l5 => (spec_meWindow.l0 l5 k ([] : List SStep) ([] : List Int) 0 2).bind fun (l12, l15) => (gt l5 (w64 ((l5.length : Int) - 1))).bind fun y40 => (spec_meWindow.l1 k a1 l5 k l12 l15 (w64 (y40 - 1)) (w64 ((l5.length : Int) - 2))).bind fun (l41, l44, i47) => (spec_meEnd.f 1 l41 l44 i47).bind fun _ => (spec_meTrim.f k 1 l41 ([i47] : List Int)).bind fun (l98, l99) => some (l98, l99)
theorem spec_meWindow.calls (k : Nat) {w0 ws : World} {P0 : Nat → Prop} (a0 : Int) (a1 : Int) (Z : Below w0.heap.size w0 ws) (hF : Fr w0 ws P0 [] ws)  (r_1 : List SStep) (r_4 : List Int) (h : spec_meWindow.f k a0 a1 = some (r_1, r_4)) :
    Calls Try.prog 52 #[.int .i64 a0, .int .i64 a1] ws (Post1 w0 ws P0 (fun ((q_2, q_3, q_5, q_6) : (Option Addr) × Nat × (Option Addr) × Nat) => .agg #[.int .i64 1, .slice q_2 r_1.length q_3, .slice q_5 r_4.length q_6]) (fun ((q_2, q_3, q_5, q_6) : (Option Addr) × Nat × (Option Addr) × Nat) => [row kStep 107 (.slice q_2 r_1.length q_3) r_1, row (Kd.int .i64) 3 (.slice q_5 r_4.length q_6) r_4])) := by
  unfold spec_meWindow.f at h
  refine enter Try.func52 rfl Try.ntmps52 rfl hF (c_seq (za0 (o_e rfl (zaf V25 rfl) (fun g1 => o_end (za1 (c_seq (za0 (o_q rfl rfl (za2 rfl) (o_q rfl rfl (za2 rfl) ?_)))))))))
  refine za7 h (fun _ hz3 h => ?_) rfl
  refine o_q rfl rfl (q_shl rfl rfl (nn_le hz3)) (za7 h (fun l5 hx4 h => ?_) rfl)
  refine o_e rfl (za6 0 Z Try.func108 N108 rfl rfl rfl (fun w P1 hF hB hS hT => spec_meDigits.calls k a0 (IntKind.i64.wrap (1 * 2 ^ min (a1 : Int).toNat IntKind.i64.bits)) hB hF _ hx4)) (cur2 (fun A6 c7 => o_q rfl rfl (q_asg rfl) (o_end (za1 (c_seq (za0 (o_q rfl rfl (q_build (vs := [(0, .int .i64 1)]) (cs := [.int .i64 1, .slice none 0 0, .slice none 0 0]) rfl rfl) (o_e rfl (zaf V25 rfl) (fun g8 => o_e rfl (zah (i := 0) rfl rfl rfl Z25 rfl rfl) (fun _ => o_end ?_))))))))))
  refine za1 (c_seq (za0 (o_q rfl rfl (q_asg rfl) (o_end (za1 (c_seq (c_seq (za0 (o_q rfl rfl (q_asg rfl) ?_)))))))))
  refine o_end (za1 (zai (c_nil kStep 107 (c_nil (Kd.int .i64) 3 (za7 h (fun o27 hl26 hR25 => ?_) rfl)))))
  clear h
  refine zaw (σ := (List SStep) × (List Int) × Int × Int × (Option Addr) × Nat × (Option Addr) × Nat) (fun k22 ((l12, l15, i18, i19, A13, c14, A16, c17) : (List SStep) × (List Int) × Int × Int × (Option Addr) × Nat × (Option Addr) × Nat) => spec_meWindow.l0 l5 k22 l12 l15 i18 i19 = some o27) [7, 8, 16, 17, 18, 19, 20, 21, 22, 23, 24, 25, 26, 27] (fun ((l12, l15, i18, i19, A13, c14, A16, c17) : (List SStep) × (List Int) × Int × Int × (Option Addr) × Nat × (Option Addr) × Nat) => [(7, .int .i64 i18), (8, .int .i64 i19)]) (fun ((l12, l15, i18, i19, A13, c14, A16, c17) : (List SStep) × (List Int) × Int × Int × (Option Addr) × Nat × (Option Addr) × Nat) => [row (Kd.int .i64) 3 (.slice A16 l15.length c17) l15, row kStep 107 (.slice A13 l12.length c14) l12, box g8 25 #[.int .i64 1, .slice A13 l12.length c14, .slice A16 l15.length c17], row (Kd.int .i64) 3 (.slice A6 l5.length c7) l5, box g1 25 #[.int .i64 0, .slice none 0 0, .slice none 0 0]]) k (([] : List SStep), ([] : List Int), 0, 2, none, 0, none, 0) hl26 ⟨rfl, rfl, trivial⟩ (fun w h => h) (natC (cur8 (fun l12 l15 i18 i19 A13 c14 A16 c17 => fun U28 hJ_ => ?_)) (fun k22 => (cur8 (fun l12 l15 i18 i19 A13 c14 A16 c17 => fun U28 hJ_ => ?_))))
  · skip
    replace hJ_ : spec_meWindow.l0 l5 0 l12 l15 i18 i19 = some o27 := hJ_
    rw [spec_meWindow.l0] at hJ_
    exact noneE hJ_
  · skip
    clear hl26
    have h := hJ_; clear hJ_
    replace h : spec_meWindow.l0 l5 (k22 + 1) l12 l15 i18 i19 = some o27 := h
    rw [spec_meWindow.l0] at h
    refine c_seq (c_seq (za0 (o_q rfl rfl (za2 rfl) (o_q rfl rfl (za2 rfl) (za7 h (fun i31 hx30 h => ?_) rfl)))))
    refine o_e rfl (za6 0 Z Try.func109 N109 rfl rfl rfl (fun w P1 hF hB hS hT => spec_meGreatest.calls A6 c7 l5.length l5 hB hF (hT 3 _ rfl).row (hT 3 _ rfl).cap _ hx30)) (fun _ => o_q rfl rfl (q_leq rfl rfl) (o_end (za1 (zaq _ rfl (fun hb32 => ?_) (fun hb32 => ?_)))))
    · skip
      replace h := br_t hb32 h
      refine zam (za1 (c_seq (zai (za0 (o_q rfl rfl (q_ldB G25 Z25 rfl (fun w h => h.za9 (i := 2) rfl) rfl) (o_q rfl rfl (za2 rfl) (za7 h (fun l34 hx33 h => ?_) rfl)))))))
      refine o_e rfl (za6 0 Z Try.func110 N110 rfl rfl rfl (fun w P1 hF hB hS hT => spec_meTimes.calls 1 A13 c14 l12.length l12 A16 c17 l15.length l15 i18 0 hB hF (hT 1 _ rfl).row (hT 1 _ rfl).cap (hT 0 _ rfl).row (hT 0 _ rfl).cap _ hx33)) (cur2 (fun A35 c36 => o_q rfl rfl (za2 rfl) (o_q rfl rfl (q_ext rfl rfl) (o_q rfl rfl (q_ext rfl rfl) (o_e rfl (zah (i := 4) rfl rfl rfl Z25 rfl rfl) (fun _ => o_q rfl rfl (q_asg rfl) (o_end (zak (za1 (za0 ?_))))))))))
      refine o_q rfl rfl (za2 rfl) (o_q rfl rfl (zb0 rfl rfl) (o_q rfl rfl (q_asg rfl) (o_end (x_fact (p := 0 = [].length) (fun w h => (h.row_C (i := 1) rfl).2.1) (fun hn37 => zan k22 (l34, [], w64 (1 + (l12.length : Int)), w64 (i19 + 1), A35, c36, none, 0) (Nat.lt_succ_self _) h ⟨rfl, rfl, trivial⟩ (f_pickE (L1 := [row kStep 107 (.slice A35 l34.length c36) l34, row (Kd.int .i64) 3 (.slice none 0 0) [], row (Kd.int .i64) 3 (.slice A16 l15.length c17) l15, row kStep 107 (.slice A13 l12.length c14) l12, box g8 25 #[.int .i64 1, .slice A35 l34.length c36, .slice none 0 0], row (Kd.int .i64) 3 (.slice A6 l5.length c7) l5, box g1 25 #[.int .i64 0, .slice none 0 0, .slice none 0 0]]) rfl [1, 0, 4, 5, 6] dc_ rfl (by (try rw [hn37]); first | done | rfl)) ?_)))))
      exact of_
    · skip
      replace h := br_f hb32 h
      refine zb2 (za8 (za8 ?_))
      have e_ := si_ h; replace h := hR25; rw [← e_] at h; clear e_
      refine x_hit (za1 (c_seq (za0 (o_q rfl rfl (za2 rfl) (o_q rfl rfl (za2 rfl) (o_q rfl rfl (q_len Try.underlying23 rfl) (o_q rfl rfl (zb1 rfl rfl) (zb4 (p := Sh A6 l5.length l5.length) (fun w h => f_sh (dk := (Kd.int .i64)) h (fun w h => h.zar (i := 3) rfl)) (fun hq38 => za7 h (fun y40 hg39 h => ?_) rfl)))))))))
      refine o_q rfl rfl (q_ix Try.underlying23 Z3 rfl rfl hq38 hg39) (o_q rfl rfl (q_lde (off := 0) Y3 rfl rfl (fun w h => h.zar (i := 3) rfl) hg39 (fun _ _ h => h) rfl) (o_q rfl rfl (zb1 rfl rfl) (o_q rfl rfl (q_asg rfl) (o_end (za1 (c_seq (c_seq (za0 (o_q rfl rfl (za2 rfl) ?_)))))))))
      refine o_q rfl rfl (q_len Try.underlying23 rfl) (o_q rfl rfl (zb1 rfl rfl) (o_q rfl rfl (q_asg rfl) (o_end (za1 (zai (za7 h (fun o56 hl55 hR54 => ?_) rfl))))))
      clear h
      refine zaw (σ := (List SStep) × (List Int) × Int × Int × (Option Addr) × Nat × (Option Addr) × Nat) (fun k51 ((l41, l44, i47, i48, A42, c43, A45, c46) : (List SStep) × (List Int) × Int × Int × (Option Addr) × Nat × (Option Addr) × Nat) => spec_meWindow.l1 k a1 l5 k51 l41 l44 i47 i48 = some o56) [7, 9, 10, 38, 39, 40, 41, 42, 43, 44, 45, 46, 47, 48, 49, 50, 51, 52, 53, 54, 55, 56, 57, 58, 59, 60, 61, 62, 63, 64, 65, 66, 67, 68, 69] (fun ((l41, l44, i47, i48, A42, c43, A45, c46) : (List SStep) × (List Int) × Int × Int × (Option Addr) × Nat × (Option Addr) × Nat) => [(7, .int .i64 i47), (9, .int .i64 i48)]) (fun ((l41, l44, i47, i48, A42, c43, A45, c46) : (List SStep) × (List Int) × Int × Int × (Option Addr) × Nat × (Option Addr) × Nat) => [row (Kd.int .i64) 3 (.slice A45 l44.length c46) l44, row kStep 107 (.slice A42 l41.length c43) l41, box g8 25 #[.int .i64 1, .slice A42 l41.length c43, .slice A45 l44.length c46], row (Kd.int .i64) 3 (.slice A6 l5.length c7) l5, box g1 25 #[.int .i64 0, .slice none 0 0, .slice none 0 0]]) k (l12, l15, w64 (y40 - 1), w64 ((l5.length : Int) - 2), A13, c14, A16, c17) hl55 ⟨rfl, rfl, trivial⟩ (fun w h => h) (natC (cur8 (fun l41 l44 i47 i48 A42 c43 A45 c46 => fun U57 hJ_ => ?_)) (fun k51 => (cur8 (fun l41 l44 i47 i48 A42 c43 A45 c46 => fun U57 hJ_ => ?_))))
      · skip
        replace hJ_ : spec_meWindow.l1 k a1 l5 0 l41 l44 i47 i48 = some o56 := hJ_
        rw [spec_meWindow.l1] at hJ_
        exact noneE hJ_
      · skip
        clear hl55
        have h := hJ_; clear hJ_
        replace h : spec_meWindow.l1 k a1 l5 (k51 + 1) l41 l44 i47 i48 = some o56 := h
        rw [spec_meWindow.l1] at h
        refine c_seq (c_seq (za0 (o_q rfl rfl (za2 rfl) (o_q rfl rfl (q_geq rfl rfl) (o_end (za1 (zaq _ rfl (fun hb59 => ?_) (fun hb59 => ?_))))))))
        · skip
          replace h := br_t hb59 h
          refine zam (za1 (c_seq (zai (c_seq (c_seq (za0 (o_q rfl rfl (q_asg rfl) (o_end (za1 ?_)))))))))
          refine zai (za7 h (fun o75 hl74 hR73 => ?_) rfl)
          clear h
          refine zaw (σ := (List SStep) × (List Int) × Int × Int × (Option Addr) × Nat × (Option Addr) × Nat) (fun k70 ((l60, l63, i66, i67, A61, c62, A64, c65) : (List SStep) × (List Int) × Int × Int × (Option Addr) × Nat × (Option Addr) × Nat) => spec_meWindow.l2 a1 k70 l60 l63 i66 i67 = some o75) [7, 10, 42, 43, 44, 45, 46, 47, 48, 49, 50, 51, 52, 53] (fun ((l60, l63, i66, i67, A61, c62, A64, c65) : (List SStep) × (List Int) × Int × Int × (Option Addr) × Nat × (Option Addr) × Nat) => [(7, .int .i64 i67), (10, .int .i64 i66)]) (fun ((l60, l63, i66, i67, A61, c62, A64, c65) : (List SStep) × (List Int) × Int × Int × (Option Addr) × Nat × (Option Addr) × Nat) => [row (Kd.int .i64) 3 (.slice A64 l63.length c65) l63, row kStep 107 (.slice A61 l60.length c62) l60, box g8 25 #[.int .i64 1, .slice A61 l60.length c62, .slice A64 l63.length c65], row (Kd.int .i64) 3 (.slice A6 l5.length c7) l5, box g1 25 #[.int .i64 0, .slice none 0 0, .slice none 0 0]]) k (l41, l44, 0, i47, A42, c43, A45, c46) hl74 ⟨rfl, rfl, trivial⟩ (fun w h => h) (natC (cur8 (fun l60 l63 i66 i67 A61 c62 A64 c65 => fun U76 hJ_ => ?_)) (fun k70 => (cur8 (fun l60 l63 i66 i67 A61 c62 A64 c65 => fun U76 hJ_ => ?_))))
          · skip
            replace hJ_ : spec_meWindow.l2 a1 0 l60 l63 i66 i67 = some o75 := hJ_
            rw [spec_meWindow.l2] at hJ_
            exact noneE hJ_
          · skip
            clear hl74
            have h := hJ_; clear hJ_
            replace h : spec_meWindow.l2 a1 (k70 + 1) l60 l63 i66 i67 = some o75 := h
            rw [spec_meWindow.l2] at h
            refine c_seq (c_seq (za0 (o_q rfl rfl (za2 rfl) (o_q rfl rfl (za2 rfl) (o_q rfl rfl (q_lss rfl rfl) (o_end (za1 (zaq _ rfl (fun hb78 => ?_) (fun hb78 => ?_)))))))))
            · skip
              replace h := br_t hb78 h
              refine zam (za1 (c_seq (zai (za0 (o_q rfl rfl (q_ldB G25 Z25 rfl (fun w h => h.za9 (i := 2) rfl) rfl) (o_q rfl rfl (za2 rfl) (o_q rfl rfl (za2 rfl) (za7 h (fun l80 hx79 h => ?_) rfl))))))))
              refine o_e rfl (za6 0 Z Try.func110 N110 rfl rfl rfl (fun w P1 hF hB hS hT => spec_meTimes.calls 1 A61 c62 l60.length l60 A64 c65 l63.length l63 i67 i67 hB hF (hT 1 _ rfl).row (hT 1 _ rfl).cap (hT 0 _ rfl).row (hT 0 _ rfl).cap _ hx79)) (cur2 (fun A81 c82 => o_q rfl rfl (za2 rfl) (o_q rfl rfl (q_ext rfl rfl) (o_q rfl rfl (q_ext rfl rfl) (o_e rfl (zah (i := 4) rfl rfl rfl Z25 rfl rfl) (fun _ => o_q rfl rfl (q_asg rfl) (o_end (zak (za1 (za0 ?_))))))))))
              refine o_q rfl rfl (za2 rfl) (o_q rfl rfl (zb0 rfl rfl) (o_q rfl rfl (q_asg rfl) (o_end (x_fact (p := 0 = [].length) (fun w h => (h.row_C (i := 1) rfl).2.1) (fun hn83 => zan k70 (l80, [], w64 (i66 + 1), w64 (1 + (l60.length : Int)), A81, c82, none, 0) (Nat.lt_succ_self _) h ⟨rfl, rfl, trivial⟩ (f_pickE (L1 := [row kStep 107 (.slice A81 l80.length c82) l80, row (Kd.int .i64) 3 (.slice none 0 0) [], row (Kd.int .i64) 3 (.slice A64 l63.length c65) l63, row kStep 107 (.slice A61 l60.length c62) l60, box g8 25 #[.int .i64 1, .slice A81 l80.length c82, .slice none 0 0], row (Kd.int .i64) 3 (.slice A6 l5.length c7) l5, box g1 25 #[.int .i64 0, .slice none 0 0, .slice none 0 0]]) rfl [1, 0, 4, 5, 6] dc_ rfl (by (try rw [hn83]); first | done | rfl)) ?_)))))
              exact of_
            · skip
              replace h := br_f hb78 h
              refine zb2 (za8 (za8 ?_))
              have e_ := si_ h; replace h := hR73; rw [← e_] at h; clear e_
              refine x_hit (za1 (c_seq (za0 (o_q rfl rfl (za2 rfl) (o_q rfl rfl (za2 rfl) (za7 h (fun y85 hg84 h => ?_) rfl))))))
              refine o_q rfl rfl (q_ix Try.underlying23 Z3 rfl rfl hq38 hg84) (o_q rfl rfl (q_lde (off := 0) Y3 rfl rfl (fun w h => h.zar (i := 3) rfl) hg84 (fun _ _ h => h) rfl) (o_q rfl rfl (q_gtr rfl rfl) (o_end (za1 (zaq _ rfl (fun hb86 => ?_) (fun hb86 => ?_))))))
              · skip
                replace h := br_t hb86 h
                refine a_startS (ds := []) [some 0, some 1, none, some 3, some 4] MO rfl (za4 1 rfl rfl rfl kr_ (fun _ _ _ h => h) (za2 rfl) (za4 2 rfl rfl rfl kr_ (fun _ _ _ h => h) (za2 rfl) (za4 3 rfl rfl rfl kr_ (fun _ _ _ h => h) (za2 rfl) (za7 h (fun y88 hg87 h => ?_) rfl))))
                refine za4 4 rfl rfl rfl kr_ (fun _ _ _ h => h) (q_ix Try.underlying23 Z3 rfl rfl hq38 hg87) (zau 5 rfl rfl rfl kr_ (fun _ _ _ h => h) (fun w h => za3 [some 0, some 1, none, some 3, some 4] dc_ w h rfl) (q_lde (off := 0) Y3 rfl rfl (fun w h => h.zar (i := 3) rfl) hg87 (fun _ _ h => h) rfl) (za4 6 rfl rfl rfl kr_ (fun _ _ _ h => h) (zb1 rfl rfl) (a_one 0 rfl rfl kr_ rfl (ev_q rfl (q_ldB G25 Z25 rfl (fun w h => h.za9 (i := 2) rfl) rfl)) (fun s w h => za3 [some 0, some 1, none, some 3, some 4] dc_ w h rfl) (fun _ => za7 h (fun l90 hx89 h => ?_) rfl))))
                refine a_one 7 rfl rfl kr_ rfl (za6 0 Z Try.func110 N110 rfl rfl rfl (fun w P1 hF hB hS hT => spec_meTimes.calls 1 A61 c62 l60.length l60 A64 c65 l63.length l63 i67 (w64 (y88 - 1)) hB hF (hT 1 _ rfl).row (hT 1 _ rfl).cap (hT 0 _ rfl).row (hT 0 _ rfl).cap _ hx89)) (fun s w h => za3 [some 2, some 3, none, some 5, some 6] dc_ w h rfl) (cur2 (fun A91 c92 => za4 8 rfl rfl rfl kr_ (fun _ _ _ h => h) (za2 rfl) (za4 9 rfl rfl rfl kr_ (fun _ _ _ h => h) (q_ext rfl rfl) (za4 10 rfl rfl rfl kr_ (fun _ _ _ h => h) (q_ext rfl rfl) (a_one 11 rfl rfl kr_ rfl (zah (i := 4) rfl rfl rfl Z25 rfl rfl) (fun s w h => za3 [some 2, some 3, none, some 5, some 6] dc_ w h rfl) (fun _ => za4 12 rfl rfl rfl kr_ (fun _ _ _ h => h) (q_asg rfl) (zao kr_ (zak (za1 (za0 ?_))))))))))
                refine o_q rfl rfl (za2 rfl) (o_q rfl rfl (zb1 rfl rfl) (o_q rfl rfl (q_asg rfl) (o_end (x_fact (p := 0 = [].length) (fun w h => (h.row_C (i := 1) rfl).2.1) (fun hn93 => zan k51 (l90, [], w64 (1 + (l60.length : Int)), w64 (i48 - 1), A91, c92, none, 0) (Nat.lt_succ_self _) h ⟨rfl, rfl, trivial⟩ (f_pickE (L1 := [row kStep 107 (.slice A91 l90.length c92) l90, row (Kd.int .i64) 3 (.slice none 0 0) [], row (Kd.int .i64) 3 (.slice A64 l63.length c65) l63, row kStep 107 (.slice A61 l60.length c62) l60, box g8 25 #[.int .i64 1, .slice A91 l90.length c92, .slice none 0 0], row (Kd.int .i64) 3 (.slice A6 l5.length c7) l5, box g1 25 #[.int .i64 0, .slice none 0 0, .slice none 0 0]]) rfl [1, 0, 4, 5, 6] dc_ rfl (by (try rw [hn93]); first | done | rfl)) ?_)))))
                exact of_
              · skip
                replace h := br_f hb86 h
                refine zam (zak (za1 (za0 (o_q rfl rfl (za2 rfl) (o_q rfl rfl (zb1 rfl rfl) (o_q rfl rfl (q_asg rfl) (o_end (zan k51 (l60, l63, i67, w64 (i48 - 1), A61, c62, A64, c65) (Nat.lt_succ_self _) h ⟨rfl, rfl, trivial⟩ (fun w h => za5 [0, 1, 2, 3, 4] dc_ rfl w h) ?_))))))))
                exact of_
        · skip
          replace h := br_f hb59 h
          refine zb2 (za8 (za8 ?_))
          have e_ := si_ h; replace h := hR54; rw [← e_] at h; clear e_
          refine x_hit (za1 (c_seq (za0 (o_q rfl rfl (q_ldB G25 Z25 rfl (fun w h => h.za9 (i := 2) rfl) rfl) (o_q rfl rfl (za2 rfl) (o_pick [1, 0, 2, 3, 4] dc_ rfl (za7 h (fun _ hx94 h => ?_) rfl)))))))
          refine o_e rfl (za6 1 Z Try.func112 N112 rfl rfl rfl (fun w P1 hF hB hS hT => spec_meEnd.calls 1 A42 c43 l41.length l41 A45 c46 l44.length l44 i47 hB hF (hT 0 _ rfl).row (hT 0 _ rfl).cap hx94)) (cur2 (fun A95 c96 => bindE2 h (fun l98 l99 hx97 h => ?_) rfl))
          refine o_e rfl (za6 0 Z Try.func111 N111 rfl rfl rfl (fun w P1 hF hB hS hT => spec_meTrim.calls k 1 A42 c43 l41.length l41 A95 c96 (([i47] : List Int).length) ([i47] : List Int) hB hF (hT 0 _ rfl).row (hT 0 _ rfl).cap (hT 1 _ rfl).row (hT 1 _ rfl).cap _ _ hx97)) (cur4 (fun A100 c101 A102 c103 => o_e rfl (zah (i := 7) rfl rfl rfl Z25 rfl rfl) (fun _ => o_end (za1 (c_ret ?_)))))
          have e0_ := si_ h; clear h
          obtain ⟨rfl, e1_⟩ := Prod.mk.inj e0_
          subst e1_
          exact x_r1 (A100, c101, A102, c103) Try.results52 (zb5 rfl G25 Z25 (fun w h => h.za9 (i := 7) rfl) rfl) rfl (fun w h => za5 [0, 1] dc_ rfl w h)

def spec_meSpans.l1 (l2 : List Int) : Nat → Int → Option Int
  | 0, _ => none
  | k48 + 1, i45 => (gt l2 i45).bind fun y57 => if y57 = 0 then (spec_meSpans.l1 l2 k48 (w64 (i45 + 1))) else (some i45)
def spec_meSpans.l0 (k : Nat) (a0 : Int) (a1 : Int) (l2 : List Int) : Nat → (List Int) → (List Int) → Int → Option ((List Int) × (List Int))
  | 0, _, _, _ => none
  | k16 + 1, l7, l10, i13 => if 0 ≤ i13 then ((gt l2 i13).bind fun y27 => if y27 = 0 then ((ap l7 ([0] : List Int)).bind fun l32 => (ap l10 ([1] : List Int)).bind fun l39 => spec_meSpans.l0 k a0 a1 l2 k16 l32 l39 (w64 (i13 - 1))) else ((spec_l1Most.f 0 (w64 (w64 (i13 - a1) + 1))).bind fun i44 => (spec_meSpans.l1 l2 k i44).bind fun i45 => (nn i45).bind fun _ => (nn (w64 (w64 (i13 - i45) + 1))).bind fun _ => (nz (IntKind.i64.wrap (1 * 2 ^ min (w64 (w64 (i13 - i45) + 1) : Int).toNat IntKind.i64.bits))).bind fun _ => (ap l7 ([(a0 / 2 ^ min (i45 : Int).toNat IntKind.i64.bits).tmod (IntKind.i64.wrap (1 * 2 ^ min (w64 (w64 (i13 - i45) + 1) : Int).toNat IntKind.i64.bits))] : List Int)).bind fun l65 => (ap l10 ([w64 (w64 (i13 - i45) + 1)] : List Int)).bind fun l72 => spec_meSpans.l0 k a0 a1 l2 k16 l65 l72 (w64 (i45 - 1)))) else (some (l7, l10))
def spec_meSpans.f (k : Nat) (a0 : Int) (a1 : Int) : Option ((List Int) × (List Int)) := (spec_meDigits.f k a0 2).bind fun l2 => (spec_meSpans.l0 k a0 a1 l2 k ([] : List Int) ([] : List Int) (w64 ((l2.length : Int) - 1))).bind fun (l7, l10) => some (l7, l10)
theorem spec_meSpans.calls (k : Nat) {w0 ws : World} {P0 : Nat → Prop} (a0 : Int) (a1 : Int) (Z : Below w0.heap.size w0 ws) (hF : Fr w0 ws P0 [] ws)  (r_1 : List Int) (r_4 : List Int) (h : spec_meSpans.f k a0 a1 = some (r_1, r_4)) :
    Calls Try.prog 73 #[.int .i64 a0, .int .i64 a1] ws (Post1 w0 ws P0 (fun ((q_2, q_3, q_5, q_6) : (Option Addr) × Nat × (Option Addr) × Nat) => .tuple #[.slice q_2 r_1.length q_3, .slice q_5 r_4.length q_6]) (fun ((q_2, q_3, q_5, q_6) : (Option Addr) × Nat × (Option Addr) × Nat) => [row (Kd.int .i64) 3 (.slice q_2 r_1.length q_3) r_1, row (Kd.int .i64) 3 (.slice q_5 r_4.length q_6) r_4])) := by
  unfold spec_meSpans.f at h
  refine enter Try.func73 rfl Try.ntmps73 rfl hF (c_seq (za0 (o_q rfl rfl (q_asg rfl) (o_q rfl rfl (q_asg rfl) (o_end (za1 (c_seq (za0 (o_q rfl rfl (za2 rfl) ?_)))))))))
  refine za7 h (fun l2 hx1 h => ?_) rfl
  refine o_e rfl (za6 0 Z Try.func108 N108 rfl rfl rfl (fun w P1 hF hB hS hT => spec_meDigits.calls k a0 2 hB hF _ hx1)) (cur2 (fun A3 c4 => o_q rfl rfl (q_asg rfl) (o_end (za1 (c_seq (za0 (o_q rfl rfl (q_asg rfl) (o_q rfl rfl (q_asg rfl) (o_end (za1 ?_))))))))))
  refine c_seq (c_seq (za0 (o_q rfl rfl (za2 rfl) (o_q rfl rfl (q_len Try.underlying23 rfl) (o_q rfl rfl (zb1 rfl rfl) (o_q rfl rfl (q_asg rfl) (o_end (za1 (zai ?_)))))))))
  refine c_nil (Kd.int .i64) 3 (c_nil (Kd.int .i64) 3 (za7 h (fun o21 hl20 hR19 => ?_) rfl))
  clear h
  refine zaw (σ := (List Int) × (List Int) × Int × (Option Addr) × Nat × (Option Addr) × Nat) (fun k16 ((l7, l10, i13, A8, c9, A11, c12) : (List Int) × (List Int) × Int × (Option Addr) × Nat × (Option Addr) × Nat) => spec_meSpans.l0 k a0 a1 l2 k16 l7 l10 i13 = some o21) [7, 8, 9, 10, 16, 17, 18, 19, 20, 21, 22, 23, 24, 25, 26, 27, 28, 29, 30, 31, 32, 33, 34, 35, 36, 37, 38, 39, 40, 41, 42, 43, 44, 45, 46, 47, 48, 49, 50, 51, 52, 53, 54, 55, 56, 57, 58, 59, 60, 61, 62, 63] (fun ((l7, l10, i13, A8, c9, A11, c12) : (List Int) × (List Int) × Int × (Option Addr) × Nat × (Option Addr) × Nat) => [(7, .slice A8 l7.length c9), (8, .slice A11 l10.length c12), (9, .int .i64 i13)]) (fun ((l7, l10, i13, A8, c9, A11, c12) : (List Int) × (List Int) × Int × (Option Addr) × Nat × (Option Addr) × Nat) => [row (Kd.int .i64) 3 (.slice A11 l10.length c12) l10, row (Kd.int .i64) 3 (.slice A8 l7.length c9) l7, row (Kd.int .i64) 3 (.slice A3 l2.length c4) l2]) k (([] : List Int), ([] : List Int), w64 ((l2.length : Int) - 1), none, 0, none, 0) hl20 ⟨rfl, rfl, rfl, trivial⟩ (fun w h => h) (natC (cur7 (fun l7 l10 i13 A8 c9 A11 c12 => fun U22 hJ_ => ?_)) (fun k16 => (cur7 (fun l7 l10 i13 A8 c9 A11 c12 => fun U22 hJ_ => ?_))))
  · skip
    replace hJ_ : spec_meSpans.l0 k a0 a1 l2 0 l7 l10 i13 = some o21 := hJ_
    rw [spec_meSpans.l0] at hJ_
    exact noneE hJ_
  · skip
    clear hl20
    have h := hJ_; clear hJ_
    replace h : spec_meSpans.l0 k a0 a1 l2 (k16 + 1) l7 l10 i13 = some o21 := h
    rw [spec_meSpans.l0] at h
    refine c_seq (c_seq (za0 (o_q rfl rfl (za2 rfl) (o_q rfl rfl (q_geq rfl rfl) (o_end (za1 (zaq _ rfl (fun hb24 => ?_) (fun hb24 => ?_))))))))
    · skip
      replace h := br_t hb24 h
      refine zam (za1 (zai (c_seq (c_seq (za0 (o_q rfl rfl (za2 rfl) (o_q rfl rfl (za2 rfl) (zb4 (p := Sh A3 l2.length l2.length) (fun w h => f_sh (dk := (Kd.int .i64)) h (fun w h => h.zar (i := 2) rfl)) (fun hq25 => za7 h (fun y27 hg26 h => ?_) rfl)))))))))
      refine o_q rfl rfl (q_ix Try.underlying23 Z3 rfl rfl hq25 hg26) (o_q rfl rfl (q_lde (off := 0) Y3 rfl rfl (fun w h => h.zar (i := 2) rfl) hg26 (fun _ _ h => h) rfl) (o_q rfl rfl (q_eql rfl rfl) (o_end (za1 (zaq _ rfl (fun hb28 => ?_) (fun hb28 => ?_))))))
      · skip
        replace h := br_t hb28 h
        refine c_seq (za0 (o_q rfl rfl (za2 rfl) (o_e rfl (e_lit (vs := [(0, .int .i64 0)]) (cs := [.int .i64 0]) (Kd.int .i64) ([0] : List Int) Try.underlying23 I3 dc_ rfl dc_ rfl rfl (fun _ _ => Kd.zad _)) (cur2 (fun A29 c30 => za7 h (fun l32 ha33 h => ?_) rfl)))))
        refine o_e rfl (e_app (i := 2) (j := 0) Try.underlying23 I3 rfl dc_ dc_ rfl rfl rfl rfl rfl ha33) (cur2 (fun A34 c35 => o_q rfl rfl (q_asg rfl) (o_end (za1 (c_seq (za0 (o_q rfl rfl (za2 rfl) (o_e rfl (e_lit (vs := [(0, .int .i64 1)]) (cs := [.int .i64 1]) (Kd.int .i64) ([1] : List Int) Try.underlying23 I3 dc_ rfl dc_ rfl rfl (fun _ _ => Kd.zad _)) (cur2 (fun A36 c37 => za7 h (fun l39 ha40 h => ?_) rfl))))))))))
        refine o_e rfl (e_app (i := 2) (j := 0) Try.underlying23 I3 rfl dc_ dc_ rfl rfl rfl rfl rfl ha40) (cur2 (fun A41 c42 => o_q rfl rfl (q_asg rfl) (o_end (za1 (c_seq (za0 (o_q rfl rfl (za2 rfl) (o_q rfl rfl (zb1 rfl rfl) (o_q rfl rfl (q_asg rfl) (o_end ?_))))))))))
        refine za1 (zb2 (za8 (x_hit (zan k16 (l32, l39, w64 (i13 - 1), A34, c35, A41, c42) (Nat.lt_succ_self _) h ⟨rfl, rfl, rfl, trivial⟩ (fun w h => za5 [2, 3, 4] dc_ rfl w h) ?_))))
        exact of_
      · skip
        replace h := br_f hb28 h
        refine zam (za1 (c_seq (za0 (o_q rfl rfl (za2 rfl) (o_q rfl rfl (za2 rfl) (o_q rfl rfl (zb1 rfl rfl) (o_q rfl rfl (zb0 rfl rfl) (za7 h (fun i44 hx43 h => ?_) rfl))))))))
        refine o_e rfl (za6 0 Z Try.func88 N88 rfl rfl rfl (fun w P1 hF hB hS hT => spec_l1Most.calls 0 (w64 (w64 (i13 - a1) + 1)) hB hF _ hx43)) (fun _ => o_q rfl rfl (q_asg rfl) (o_end (za1 (c_seq (zai (za7 h (fun o53 hl52 hR51 => ?_) rfl))))))
        clear h
        refine zaw (σ := Int) (fun k48 (i45 : Int) => spec_meSpans.l1 l2 k48 i45 = some o53) [10, 36, 37, 38, 39, 40, 41, 42] (fun (i45 : Int) => [(10, .int .i64 i45)]) (fun (i45 : Int) => [row (Kd.int .i64) 3 (.slice A11 l10.length c12) l10, row (Kd.int .i64) 3 (.slice A8 l7.length c9) l7, row (Kd.int .i64) 3 (.slice A3 l2.length c4) l2]) k i44 hl52 ⟨rfl, trivial⟩ (fun w h => h) (natC (fun i45 => fun U54 hJ_ => ?_) (fun k48 => (fun i45 => fun U54 hJ_ => ?_)))
        · skip
          replace hJ_ : spec_meSpans.l1 l2 0 i45 = some o53 := hJ_
          rw [spec_meSpans.l1] at hJ_
          exact noneE hJ_
        · skip
          clear hl52
          have h := hJ_; clear hJ_
          replace h : spec_meSpans.l1 l2 (k48 + 1) i45 = some o53 := h
          rw [spec_meSpans.l1] at h
          refine c_seq (c_seq (za0 (o_q rfl rfl (za2 rfl) (o_q rfl rfl (za2 rfl) (za7 h (fun y57 hg56 h => ?_) rfl)))))
          refine o_q rfl rfl (q_ix Try.underlying23 Z3 rfl rfl hq25 hg56) (o_q rfl rfl (q_lde (off := 0) Y3 rfl rfl (fun w h => h.zar (i := 2) rfl) hg56 (fun _ _ h => h) rfl) (o_q rfl rfl (q_eql rfl rfl) (o_end (za1 (zaq _ rfl (fun hb58 => ?_) (fun hb58 => ?_))))))
          · skip
            replace h := br_t hb58 h
            refine zam (za1 (zai (za0 (o_q rfl rfl (za2 rfl) (o_q rfl rfl (zb0 rfl rfl) (o_q rfl rfl (q_asg rfl) (o_end (zak (zan k48 (w64 (i45 + 1)) (Nat.lt_succ_self _) h ⟨rfl, trivial⟩ (fun w h => za5 [0, 1, 2] dc_ rfl w h) ?_)))))))))
            exact of_
          · skip
            replace h := br_f hb58 h
            refine zb2 (za8 (za8 ?_))
            have e_ := si_ h; replace h := hR51; rw [← e_] at h; clear e_
            refine x_hit (za1 (c_seq (a_startS (ds := []) [some 0, none, some 2] MO rfl (za4 0 rfl rfl rfl kr_ (fun _ _ _ h => h) (za2 rfl) (za4 1 rfl rfl rfl kr_ (fun _ _ _ h => h) (za2 rfl) (za4 2 rfl rfl rfl kr_ (fun _ _ _ h => h) (za2 rfl) (za7 h (fun _ hz59 h => ?_) rfl)))))))
            refine za4 3 rfl rfl rfl kr_ (fun _ _ _ h => h) (q_shr rfl rfl (nn_le hz59)) (za4 4 rfl rfl rfl kr_ (fun _ _ _ h => h) (za2 rfl) (za4 5 rfl rfl rfl kr_ (fun _ _ _ h => h) (za2 rfl) (za4 6 rfl rfl rfl kr_ (fun _ _ _ h => h) (zb1 rfl rfl) (za4 7 rfl rfl rfl kr_ (fun _ _ _ h => h) (zb0 rfl rfl) (za7 h (fun _ hz60 h => ?_) rfl)))))
            refine za4 8 rfl rfl rfl kr_ (fun _ _ _ h => h) (q_shl rfl rfl (nn_le hz60)) (za7 h (fun _ hz61 h => ?_) rfl)
            refine za4 9 rfl rfl rfl kr_ (fun _ _ _ h => h) (q_rem rfl rfl (nz_ne hz61)) (a_one 10 rfl rfl kr_ rfl (e_lit (vs := [(0, .int .i64 ((a0 / 2 ^ min (i45 : Int).toNat IntKind.i64.bits).tmod (IntKind.i64.wrap (1 * 2 ^ min (w64 (w64 (i13 - i45) + 1) : Int).toNat IntKind.i64.bits))))]) (cs := [.int .i64 ((a0 / 2 ^ min (i45 : Int).toNat IntKind.i64.bits).tmod (IntKind.i64.wrap (1 * 2 ^ min (w64 (w64 (i13 - i45) + 1) : Int).toNat IntKind.i64.bits)))]) (Kd.int .i64) ([(a0 / 2 ^ min (i45 : Int).toNat IntKind.i64.bits).tmod (IntKind.i64.wrap (1 * 2 ^ min (w64 (w64 (i13 - i45) + 1) : Int).toNat IntKind.i64.bits))] : List Int) Try.underlying23 I3 dc_ rfl dc_ rfl rfl (fun _ _ => Kd.zad _)) (fun s w h => za3 [some 1, none, some 3] dc_ w h rfl) (cur2 (fun A62 c63 => za7 h (fun l65 ha66 h => ?_) rfl)))
            refine a_one 11 rfl rfl kr_ rfl (e_app (i := 2) (j := 0) Try.underlying23 I3 rfl dc_ dc_ rfl rfl rfl rfl rfl ha66) (fun s w h => za3 [some 1, none, some 3] dc_ w h rfl) (cur2 (fun A67 c68 => za4 12 rfl rfl rfl kr_ (fun _ _ _ h => h) (q_asg rfl) (zao kr_ (za1 (c_seq (za0 (o_q rfl rfl (za2 rfl) (o_q rfl rfl (za2 rfl) (o_q rfl rfl (za2 rfl) (o_q rfl rfl (zb1 rfl rfl) ?_))))))))))
            refine o_q rfl rfl (zb0 rfl rfl) (o_e rfl (e_lit (vs := [(0, .int .i64 (w64 (w64 (i13 - i45) + 1)))]) (cs := [.int .i64 (w64 (w64 (i13 - i45) + 1))]) (Kd.int .i64) ([w64 (w64 (i13 - i45) + 1)] : List Int) Try.underlying23 I3 dc_ rfl dc_ rfl rfl (fun _ _ => Kd.zad _)) (cur2 (fun A69 c70 => za7 h (fun l72 ha73 h => ?_) rfl)))
            refine o_e rfl (e_app (i := 2) (j := 0) Try.underlying23 I3 rfl dc_ dc_ rfl rfl rfl rfl rfl ha73) (cur2 (fun A74 c75 => o_q rfl rfl (q_asg rfl) (o_end (za1 (za0 (o_q rfl rfl (za2 rfl) (o_q rfl rfl (zb1 rfl rfl) (o_q rfl rfl (q_asg rfl) (o_end (zak ?_))))))))))
            refine zan k16 (l65, l72, w64 (i45 - 1), A67, c68, A74, c75) (Nat.lt_succ_self _) h ⟨rfl, rfl, rfl, trivial⟩ (fun w h => za5 [2, 3, 4] dc_ rfl w h) ?_
            exact of_
    · skip
      replace h := br_f hb24 h
      refine zb2 (za8 (za8 ?_))
      have e_ := si_ h; replace h := hR19; rw [← e_] at h; clear e_
      refine x_hit (za1 (c_seq (za0 (o_q rfl rfl (za2 rfl) (o_q rfl rfl (za2 rfl) (o_q rfl rfl (q_asg rfl) (o_q rfl rfl (q_asg rfl) (o_end (za1 ?_)))))))))
      refine c_ret ?_
      have e0_ := si_ h; clear h
      obtain ⟨rfl, e1_⟩ := Prod.mk.inj e0_
      subst e1_
      exact x_r2 (A8, c9, A11, c12) Try.results73 (zal rfl) (zal rfl) rfl (fun w h => za5 [1, 0] dc_ rfl w h)

def spec_meOdd.f (a0 : Int) : Option Int := if a0 = 1 then (some 0) else (some (w64 ((w64 (a0 + 1)).tdiv 2)))
theorem spec_meOdd.calls {w0 ws : World} {P0 : Nat → Prop} (a0 : Int) (Z : Below w0.heap.size w0 ws) (hF : Fr w0 ws P0 [] ws)  (r_1 : Int) (h : spec_meOdd.f a0 = some r_1) :
    Calls Try.prog 120 #[.int .i64 a0] ws (Post1 w0 ws P0 (fun (_ : Unit) => .int .i64 r_1) (fun (_ : Unit) => [])) := by
  unfold spec_meOdd.f at h
  refine enter Try.func120 rfl Try.ntmps120 rfl hF (c_seq (za0 (o_q rfl rfl (q_asg rfl) (o_end (za1 (c_seq (c_seq (za0 (o_q rfl rfl (za2 rfl) ?_)))))))))
  refine o_q rfl rfl (q_eql rfl rfl) (o_end (za1 (zaq _ rfl (fun hb1 => ?_) (fun hb1 => ?_))))
  · skip
    replace h := br_t hb1 h
    refine c_seq (za0 (o_q rfl rfl (q_asg rfl) (o_end (za1 (c_ret (zab ?_))))))
    have e0_ := si_ h; clear h
    subst e0_
    exact x_r1 () Try.results120 (zal rfl) rfl (fun w h => za5 [] dc_ rfl w h)
  · skip
    replace h := br_f hb1 h
    refine zam (za1 (c_seq (za0 (o_q rfl rfl (za2 rfl) (o_q rfl rfl (zb0 rfl rfl) (o_q rfl rfl (q_quo64 rfl rfl dc_) (o_q rfl rfl (q_asg rfl) (o_end (za1 ?_)))))))))
    refine c_ret ?_
    have e0_ := si_ h; clear h
    subst e0_
    exact x_r1 () Try.results120 (zal rfl) rfl (fun w h => za5 [] dc_ rfl w h)

def spec_meSliding.l0 (l4 : List Int) : Nat → (List SStep) → (List Int) → Int → Int → Option ((List SStep) × (List Int))
  | 0, _, _, _, _ => none
  | k73 + 1, l63, l66, i69, i70 => (spec_meGreatest.f l4).bind fun i82 => if i70 ≤ i82 then ((spec_meTimes.f 1 l63 l66 i69 1).bind fun l85 => spec_meSliding.l0 l4 k73 l85 [] (w64 (1 + (l63.length : Int))) (w64 (i70 + 2))) else (some (l63, l66))
def spec_meSliding.l2 (l5 : List Int) (i100 : Int) : Nat → (List SStep) → (List Int) → Int → Int → Option ((List SStep) × (List Int) × Int)
  | 0, _, _, _, _ => none
  | k123 + 1, l113, l116, i119, i120 => (gt l5 i100).bind fun y133 => if i119 < y133 then ((spec_meTimes.f 1 l113 l116 i120 i120).bind fun l136 => spec_meSliding.l2 l5 i100 k123 l136 [] (w64 (i119 + 1)) (w64 (1 + (l113.length : Int)))) else (some (l113, l116, i120))
def spec_meSliding.l1 (k : Nat) (l4 : List Int) (l5 : List Int) : Nat → (List SStep) → (List Int) → Int → Int → Option ((List SStep) × (List Int) × Int)
  | 0, _, _, _, _ => none
  | k104 + 1, l94, l97, i100, i101 => if i100 < (l4.length : Int) then ((spec_meSliding.l2 l5 i100 k l94 l97 0 i101).bind fun (l113, l116, i120) => (gt l4 i100).bind fun y141 => if 0 < y141 then ((gt l4 i100).bind fun y385 => (spec_meOdd.f y385).bind fun i505 => (spec_meTimes.f 1 l113 l116 i120 i505).bind fun l565 => spec_meSliding.l1 k l4 l5 k104 l565 [] (w64 (i100 + 1)) (w64 (1 + (l113.length : Int)))) else (spec_meSliding.l1 k l4 l5 k104 l113 l116 (w64 (i100 + 1)) i120)) else (some (l94, l97, i101))
def spec_meSliding.f (k : Nat) (a0 : Int) (a1 : Int) : Option ((List SStep) × (List Int)) := (spec_meSpans.f k a0 a1).bind fun (l4, l5) => ((spec_meGreatest.f l4).bind fun i57 => if 3 ≤ i57 then ((spec_meTimes.f 1 [] [] 0 0).bind fun l60 => (spec_meSliding.l0 l4 k l60 [] 0 3).bind fun (l63, l66) => some (l63, l66)) else (some (([] : List SStep), ([] : List Int)))).bind fun (l45, l48) => (gt l4 0).bind fun y91 => (spec_meOdd.f y91).bind fun i93 => (spec_meSliding.l1 k l4 l5 k l45 l48 1 i93).bind fun (l94, l97, i101) => (spec_meEnd.f 1 l94 l97 i101).bind fun _ => (spec_meTrim.f k 1 l94 ([i101] : List Int)).bind fun (l989, l990) => some (l989, l990)
theorem spec_meSliding.calls (k : Nat) {w0 ws : World} {P0 : Nat → Prop} (a0 : Int) (a1 : Int) (Z : Below w0.heap.size w0 ws) (hF : Fr w0 ws P0 [] ws)  (r_1 : List SStep) (r_4 : List Int) (h : spec_meSliding.f k a0 a1 = some (r_1, r_4)) :
    Calls Try.prog 66 #[.int .i64 a0, .int .i64 a1] ws (Post1 w0 ws P0 (fun ((q_2, q_3, q_5, q_6) : (Option Addr) × Nat × (Option Addr) × Nat) => .agg #[.int .i64 1, .slice q_2 r_1.length q_3, .slice q_5 r_4.length q_6]) (fun ((q_2, q_3, q_5, q_6) : (Option Addr) × Nat × (Option Addr) × Nat) => [row kStep 107 (.slice q_2 r_1.length q_3) r_1, row (Kd.int .i64) 3 (.slice q_5 r_4.length q_6) r_4])) := by
  unfold spec_meSliding.f at h
  refine enter Try.func66 rfl Try.ntmps66 rfl hF (c_seq (za0 (o_e rfl (zaf V25 rfl) (fun g1 => o_end (za1 (c_seq (za0 (o_q rfl rfl (za2 rfl) (o_q rfl rfl (za2 rfl) ?_)))))))))
  refine bindE2 h (fun l4 l5 hx3 h => ?_) rfl
  refine o_e rfl (za6 0 Z Try.func73 N73 rfl rfl rfl (fun w P1 hF hB hS hT => spec_meSpans.calls k a0 a1 hB hF _ _ hx3)) (cur4 (fun A6 c7 A8 c9 => o_q rfl rfl (za2 rfl) (o_q rfl rfl (q_ext rfl rfl) (o_q rfl rfl (q_ext rfl rfl) (o_q rfl rfl (q_asg rfl) (o_q rfl rfl (q_asg rfl) (o_end (za1 (c_seq (za0 ?_))))))))))
  refine o_q rfl rfl (q_build (vs := [(0, .int .i64 1)]) (cs := [.int .i64 1, .slice none 0 0, .slice none 0 0]) rfl rfl) (o_e rfl (zaf V25 rfl) (fun g10 => o_e rfl (zah (i := 0) rfl rfl rfl Z25 rfl rfl) (fun _ => o_end (za1 (c_seq (za0 (o_q rfl rfl (q_asg rfl) (o_end (za1 ?_)))))))))
  refine za7 h (fun o51 hl52 hR53 => ?_) rfl
  clear h
  refine c_cutJ (σ := (List SStep) × (List Int) × (Option Addr) × Nat × (Option Addr) × Nat) (fun (l45, l48, A46, c47, A49, c50) => some (l45, l48) = some o51) [8, 9, 19, 20, 21, 22, 23, 24, 25, 26, 27, 28, 29, 30, 31, 32, 33, 34, 35, 36, 37, 38] (fun (l45, l48, A46, c47, A49, c50) => []) (fun (l45, l48, A46, c47, A49, c50) => [box g1 25 #[.int .i64 0, .slice none 0 0, .slice none 0 0], row (Kd.int .i64) 3 (.slice A6 l4.length c7) l4, row (Kd.int .i64) 3 (.slice A8 l5.length c9) l5, box g10 25 #[.int .i64 1, .slice A46 l45.length c47, .slice A49 l48.length c50], row kStep 107 (.slice A46 l45.length c47) l45, row (Kd.int .i64) 3 (.slice A49 l48.length c50) l48]) ?_ ?_
  · skip
    have h := hl52; clear hl52
    clear hR53
    refine c_seq (za0 (o_q rfl rfl (za2 rfl) (za7 h (fun i57 hx56 h => ?_) rfl)))
    refine o_e rfl (za6 0 Z Try.func109 N109 rfl rfl rfl (fun w P1 hF hB hS hT => spec_meGreatest.calls A6 c7 l4.length l4 hB hF (hT 1 _ rfl).row (hT 1 _ rfl).cap _ hx56)) (fun _ => o_q rfl rfl (q_geq rfl rfl) (o_end (za1 (zaq _ rfl (fun hb58 => ?_) (fun hb58 => ?_)))))
    · skip
      replace h := br_t hb58 h
      refine c_seq (za0 (o_q rfl rfl (q_ldB G25 Z25 rfl (fun w h => h.za9 (i := 0) rfl) rfl) (za7 h (fun l60 hx59 h => ?_) rfl)))
      refine o_e rfl (za6 0 Z Try.func110 N110 rfl rfl rfl (fun w P1 hF hB hS hT => spec_meTimes.calls 1 none 0 0 [] none 0 0 [] 0 0 hB hF (stab_nil _) (Nat.le_refl 0) (stab_nil _) (Nat.le_refl 0) _ hx59)) (cur2 (fun A61 c62 => o_q rfl rfl (za2 rfl) (o_q rfl rfl (q_ext rfl rfl) (o_q rfl rfl (q_ext rfl rfl) (o_e rfl (zah (i := 2) rfl rfl rfl Z25 rfl rfl) (fun _ => o_q rfl rfl (q_asg rfl) (o_end (za1 (c_seq (za0 ?_))))))))))
      refine o_q rfl rfl (q_asg rfl) (o_end (za1 (c_seq (za0 (o_q rfl rfl (q_asg rfl) (o_end (za1 (zai (za7 h (fun o78 hl77 hR76 => ?_) rfl)))))))))
      clear h
      refine zaw (σ := (List SStep) × (List Int) × Int × Int × (Option Addr) × Nat × (Option Addr) × Nat) (fun k73 ((l63, l66, i69, i70, A64, c65, A67, c68) : (List SStep) × (List Int) × Int × Int × (Option Addr) × Nat × (Option Addr) × Nat) => spec_meSliding.l0 l4 k73 l63 l66 i69 i70 = some o78) [8, 9, 27, 28, 29, 30, 31, 32, 33, 34, 35, 36, 37, 38] (fun ((l63, l66, i69, i70, A64, c65, A67, c68) : (List SStep) × (List Int) × Int × Int × (Option Addr) × Nat × (Option Addr) × Nat) => [(8, .int .i64 i69), (9, .int .i64 i70)]) (fun ((l63, l66, i69, i70, A64, c65, A67, c68) : (List SStep) × (List Int) × Int × Int × (Option Addr) × Nat × (Option Addr) × Nat) => [row kStep 107 (.slice A64 l63.length c65) l63, row (Kd.int .i64) 3 (.slice A67 l66.length c68) l66, box g10 25 #[.int .i64 1, .slice A64 l63.length c65, .slice A67 l66.length c68], row (Kd.int .i64) 3 (.slice A6 l4.length c7) l4, row (Kd.int .i64) 3 (.slice A8 l5.length c9) l5, box g1 25 #[.int .i64 0, .slice none 0 0, .slice none 0 0]]) k (l60, [], 0, 3, A61, c62, none, 0) hl77 ⟨rfl, rfl, trivial⟩ (fun w h => h) (natC (cur8 (fun l63 l66 i69 i70 A64 c65 A67 c68 => fun U79 hJ_ => ?_)) (fun k73 => (cur8 (fun l63 l66 i69 i70 A64 c65 A67 c68 => fun U79 hJ_ => ?_))))
      · skip
        replace hJ_ : spec_meSliding.l0 l4 0 l63 l66 i69 i70 = some o78 := hJ_
        rw [spec_meSliding.l0] at hJ_
        exact noneE hJ_
      · skip
        clear hl77
        have h := hJ_; clear hJ_
        replace h : spec_meSliding.l0 l4 (k73 + 1) l63 l66 i69 i70 = some o78 := h
        rw [spec_meSliding.l0] at h
        refine c_seq (c_seq (za0 (o_q rfl rfl (za2 rfl) (o_q rfl rfl (za2 rfl) (za7 h (fun i82 hx81 h => ?_) rfl)))))
        refine o_e rfl (za6 0 Z Try.func109 N109 rfl rfl rfl (fun w P1 hF hB hS hT => spec_meGreatest.calls A6 c7 l4.length l4 hB hF (hT 3 _ rfl).row (hT 3 _ rfl).cap _ hx81)) (fun _ => o_q rfl rfl (q_leq rfl rfl) (o_end (za1 (zaq _ rfl (fun hb83 => ?_) (fun hb83 => ?_)))))
        · skip
          replace h := br_t hb83 h
          refine zam (za1 (c_seq (zai (za0 (o_q rfl rfl (q_ldB G25 Z25 rfl (fun w h => h.za9 (i := 2) rfl) rfl) (o_q rfl rfl (za2 rfl) (za7 h (fun l85 hx84 h => ?_) rfl)))))))
          refine o_e rfl (za6 0 Z Try.func110 N110 rfl rfl rfl (fun w P1 hF hB hS hT => spec_meTimes.calls 1 A64 c65 l63.length l63 A67 c68 l66.length l66 i69 1 hB hF (hT 0 _ rfl).row (hT 0 _ rfl).cap (hT 1 _ rfl).row (hT 1 _ rfl).cap _ hx84)) (cur2 (fun A86 c87 => o_q rfl rfl (za2 rfl) (o_q rfl rfl (q_ext rfl rfl) (o_q rfl rfl (q_ext rfl rfl) (o_e rfl (zah (i := 4) rfl rfl rfl Z25 rfl rfl) (fun _ => o_q rfl rfl (q_asg rfl) (o_end (zak (za1 (za0 ?_))))))))))
          refine o_q rfl rfl (za2 rfl) (o_q rfl rfl (zb0 rfl rfl) (o_q rfl rfl (q_asg rfl) (o_end (x_fact (p := 0 = [].length) (fun w h => (h.row_C (i := 1) rfl).2.1) (fun hn88 => zan k73 (l85, [], w64 (1 + (l63.length : Int)), w64 (i70 + 2), A86, c87, none, 0) (Nat.lt_succ_self _) h ⟨rfl, rfl, trivial⟩ (f_pickE (L1 := [row kStep 107 (.slice A86 l85.length c87) l85, row (Kd.int .i64) 3 (.slice none 0 0) [], row kStep 107 (.slice A64 l63.length c65) l63, row (Kd.int .i64) 3 (.slice A67 l66.length c68) l66, box g10 25 #[.int .i64 1, .slice A86 l85.length c87, .slice none 0 0], row (Kd.int .i64) 3 (.slice A6 l4.length c7) l4, row (Kd.int .i64) 3 (.slice A8 l5.length c9) l5, box g1 25 #[.int .i64 0, .slice none 0 0, .slice none 0 0]]) rfl [0, 1, 4, 5, 6, 7] dc_ rfl (by (try rw [hn88]); first | done | rfl)) ?_)))))
          exact of_
        · skip
          replace h := br_f hb83 h
          refine zb2 (za8 (za8 ?_))
          have e_ := si_ h; replace h := hR76; rw [← e_] at h; clear e_
          refine x_hit (zaj (l63, l66, A64, c65, A67, c68) h trivial (fun w h => za5 [5, 3, 4, 2, 0, 1] dc_ rfl w h) ?_)
          exact of_
    · skip
      replace h := br_f hb58 h
      refine zam (x_nil kStep 107 (x_nil (Kd.int .i64) 3 (zaj (([] : List SStep), ([] : List Int), none, 0, none, 0) h trivial (fun w h => za5 [5, 3, 4, 2, 1, 0] dc_ rfl w h) ?_)))
      exact of_
  · skip
    refine (cur6 (fun l45 l48 A46 c47 A49 c50 => fun U54 hJ55 => ?_))
    have e_ := si_ hJ55; have h := hR53; rw [← e_] at h; clear e_ hJ55 hR53 hl52
    refine c_seq (za0 (o_q rfl rfl (za2 rfl) (zb4 (p := Sh A6 l4.length l4.length) (fun w h => f_sh (dk := (Kd.int .i64)) h (fun w h => h.zar (i := 1) rfl)) (fun hq89 => za7 h (fun y91 hg90 h => ?_) rfl))))
    refine o_q rfl rfl (q_ix Try.underlying23 Z3 rfl rfl hq89 hg90) (o_q rfl rfl (q_lde (off := 0) Y3 rfl rfl (fun w h => h.zar (i := 1) rfl) hg90 (fun _ _ h => h) rfl) (za7 h (fun i93 hx92 h => ?_) rfl))
    refine o_e rfl (za6 0 Z Try.func120 N120 rfl rfl rfl (fun w P1 hF hB hS hT => spec_meOdd.calls y91 hB hF _ hx92)) (fun _ => o_q rfl rfl (q_asg rfl) (o_end (za1 (c_seq (c_seq (za0 (o_q rfl rfl (q_asg rfl) (o_end (za1 ?_)))))))))
    refine zai (za7 h (fun o109 hl108 hR107 => ?_) rfl)
    clear h
    refine zaw (σ := (List SStep) × (List Int) × Int × Int × (Option Addr) × Nat × (Option Addr) × Nat) (fun k104 ((l94, l97, i100, i101, A95, c96, A98, c99) : (List SStep) × (List Int) × Int × Int × (Option Addr) × Nat × (Option Addr) × Nat) => spec_meSliding.l1 k l4 l5 k104 l94 l97 i100 i101 = some o109) [8, 10, 11, 43, 44, 45, 46, 47, 48, 49, 50, 51, 52, 53, 54, 55, 56, 57, 58, 59, 60, 61, 62, 63, 64, 65, 66, 67, 68, 69, 70, 71, 72, 73, 74, 75, 76, 77, 78, 79] (fun ((l94, l97, i100, i101, A95, c96, A98, c99) : (List SStep) × (List Int) × Int × Int × (Option Addr) × Nat × (Option Addr) × Nat) => [(8, .int .i64 i101), (10, .int .i64 i100)]) (fun ((l94, l97, i100, i101, A95, c96, A98, c99) : (List SStep) × (List Int) × Int × Int × (Option Addr) × Nat × (Option Addr) × Nat) => [box g1 25 #[.int .i64 0, .slice none 0 0, .slice none 0 0], row (Kd.int .i64) 3 (.slice A6 l4.length c7) l4, row (Kd.int .i64) 3 (.slice A8 l5.length c9) l5, box g10 25 #[.int .i64 1, .slice A95 l94.length c96, .slice A98 l97.length c99], row kStep 107 (.slice A95 l94.length c96) l94, row (Kd.int .i64) 3 (.slice A98 l97.length c99) l97]) k (l45, l48, 1, i93, A46, c47, A49, c50) hl108 ⟨rfl, rfl, trivial⟩ (fun w h => h) (natC (cur8 (fun l94 l97 i100 i101 A95 c96 A98 c99 => fun U110 hJ_ => ?_)) (fun k104 => (cur8 (fun l94 l97 i100 i101 A95 c96 A98 c99 => fun U110 hJ_ => ?_))))
    · skip
      replace hJ_ : spec_meSliding.l1 k l4 l5 0 l94 l97 i100 i101 = some o109 := hJ_
      rw [spec_meSliding.l1] at hJ_
      exact noneE hJ_
    · skip
      clear hl108
      have h := hJ_; clear hJ_
      replace h : spec_meSliding.l1 k l4 l5 (k104 + 1) l94 l97 i100 i101 = some o109 := h
      rw [spec_meSliding.l1] at h
      refine c_seq (c_seq (za0 (o_q rfl rfl (za2 rfl) (o_q rfl rfl (za2 rfl) (o_q rfl rfl (q_len Try.underlying23 rfl) (o_q rfl rfl (q_lss rfl rfl) (o_end (za1 (zaq _ rfl (fun hb112 => ?_) (fun hb112 => ?_))))))))))
      · skip
        replace h := br_t hb112 h
        refine zam (za1 (c_seq (zai (c_seq (c_seq (za0 (o_q rfl rfl (q_asg rfl) (o_end (za1 ?_)))))))))
        refine zai (za7 h (fun o128 hl127 hR126 => ?_) rfl)
        clear h
        refine zaw (σ := (List SStep) × (List Int) × Int × Int × (Option Addr) × Nat × (Option Addr) × Nat) (fun k123 ((l113, l116, i119, i120, A114, c115, A117, c118) : (List SStep) × (List Int) × Int × Int × (Option Addr) × Nat × (Option Addr) × Nat) => spec_meSliding.l2 l5 i100 k123 l113 l116 i119 i120 = some o128) [8, 11, 49, 50, 51, 52, 53, 54, 55, 56, 57, 58, 59, 60, 61, 62, 63] (fun ((l113, l116, i119, i120, A114, c115, A117, c118) : (List SStep) × (List Int) × Int × Int × (Option Addr) × Nat × (Option Addr) × Nat) => [(8, .int .i64 i120), (11, .int .i64 i119)]) (fun ((l113, l116, i119, i120, A114, c115, A117, c118) : (List SStep) × (List Int) × Int × Int × (Option Addr) × Nat × (Option Addr) × Nat) => [box g1 25 #[.int .i64 0, .slice none 0 0, .slice none 0 0], row (Kd.int .i64) 3 (.slice A6 l4.length c7) l4, row (Kd.int .i64) 3 (.slice A8 l5.length c9) l5, box g10 25 #[.int .i64 1, .slice A114 l113.length c115, .slice A117 l116.length c118], row kStep 107 (.slice A114 l113.length c115) l113, row (Kd.int .i64) 3 (.slice A117 l116.length c118) l116]) k (l94, l97, 0, i101, A95, c96, A98, c99) hl127 ⟨rfl, rfl, trivial⟩ (fun w h => h) (natC (cur8 (fun l113 l116 i119 i120 A114 c115 A117 c118 => fun U129 hJ_ => ?_)) (fun k123 => (cur8 (fun l113 l116 i119 i120 A114 c115 A117 c118 => fun U129 hJ_ => ?_))))
        · skip
          replace hJ_ : spec_meSliding.l2 l5 i100 0 l113 l116 i119 i120 = some o128 := hJ_
          rw [spec_meSliding.l2] at hJ_
          exact noneE hJ_
        · skip
          clear hl127
          have h := hJ_; clear hJ_
          replace h : spec_meSliding.l2 l5 i100 (k123 + 1) l113 l116 i119 i120 = some o128 := h
          rw [spec_meSliding.l2] at h
          refine c_seq (c_seq (za0 (o_q rfl rfl (za2 rfl) (o_q rfl rfl (za2 rfl) (o_q rfl rfl (za2 rfl) (zb4 (p := Sh A8 l5.length l5.length) (fun w h => f_sh (dk := (Kd.int .i64)) h (fun w h => h.zar (i := 2) rfl)) (fun hq131 => za7 h (fun y133 hg132 h => ?_) rfl)))))))
          refine o_q rfl rfl (q_ix Try.underlying23 Z3 rfl rfl hq131 hg132) (o_q rfl rfl (q_lde (off := 0) Y3 rfl rfl (fun w h => h.zar (i := 2) rfl) hg132 (fun _ _ h => h) rfl) (o_q rfl rfl (q_lss rfl rfl) (o_end (za1 (zaq _ rfl (fun hb134 => ?_) (fun hb134 => ?_))))))
          · skip
            replace h := br_t hb134 h
            refine zam (za1 (c_seq (zai (za0 (o_q rfl rfl (q_ldB G25 Z25 rfl (fun w h => h.za9 (i := 3) rfl) rfl) (o_q rfl rfl (za2 rfl) (o_q rfl rfl (za2 rfl) (za7 h (fun l136 hx135 h => ?_) rfl))))))))
            refine o_e rfl (za6 0 Z Try.func110 N110 rfl rfl rfl (fun w P1 hF hB hS hT => spec_meTimes.calls 1 A114 c115 l113.length l113 A117 c118 l116.length l116 i120 i120 hB hF (hT 4 _ rfl).row (hT 4 _ rfl).cap (hT 5 _ rfl).row (hT 5 _ rfl).cap _ hx135)) (cur2 (fun A137 c138 => o_q rfl rfl (za2 rfl) (o_q rfl rfl (q_ext rfl rfl) (o_q rfl rfl (q_ext rfl rfl) (o_e rfl (zah (i := 5) rfl rfl rfl Z25 rfl rfl) (fun _ => o_q rfl rfl (q_asg rfl) (o_end (zak (za1 (za0 ?_))))))))))
            refine o_q rfl rfl (za2 rfl) (o_q rfl rfl (zb0 rfl rfl) (o_q rfl rfl (q_asg rfl) (o_end (x_fact (p := 0 = [].length) (fun w h => (h.row_C (i := 1) rfl).2.1) (fun hn139 => zan k123 (l136, [], w64 (i119 + 1), w64 (1 + (l113.length : Int)), A137, c138, none, 0) (Nat.lt_succ_self _) h ⟨rfl, rfl, trivial⟩ (f_pickE (L1 := [row kStep 107 (.slice A137 l136.length c138) l136, row (Kd.int .i64) 3 (.slice none 0 0) [], box g1 25 #[.int .i64 0, .slice none 0 0, .slice none 0 0], row (Kd.int .i64) 3 (.slice A6 l4.length c7) l4, row (Kd.int .i64) 3 (.slice A8 l5.length c9) l5, box g10 25 #[.int .i64 1, .slice A137 l136.length c138, .slice none 0 0], row kStep 107 (.slice A114 l113.length c115) l113, row (Kd.int .i64) 3 (.slice A117 l116.length c118) l116]) rfl [2, 3, 4, 5, 0, 1] dc_ rfl (by (try rw [hn139]); first | done | rfl)) ?_)))))
            exact of_
          · skip
            replace h := br_f hb134 h
            refine zb2 (za8 (za8 ?_))
            have e_ := si_ h; replace h := hR126; rw [← e_] at h; clear e_
            refine x_hit (za1 (c_seq (za0 (o_q rfl rfl (za2 rfl) (o_q rfl rfl (za2 rfl) (za7 h (fun y141 hg140 h => ?_) rfl))))))
            refine o_q rfl rfl (q_ix Try.underlying23 Z3 rfl rfl hq89 hg140) (o_q rfl rfl (q_lde (off := 0) Y3 rfl rfl (fun w h => h.zar (i := 1) rfl) hg140 (fun _ _ h => h) rfl) (o_q rfl rfl (q_gtr rfl rfl) (o_end (za1 (zaq _ rfl (fun hb142 => ?_) (fun hb142 => ?_))))))
            · skip
              replace h := br_t hb142 h
              refine za7 h (fun y385 hg384 h => ?_) rfl
              refine za7 h (fun i505 hx504 h => ?_) rfl
              refine za7 h (fun l565 hx564 h => ?_) rfl
              refine a_startS (ds := []) [some 0, some 1, some 2, none, some 4, some 5] MO rfl (za4 1 rfl rfl rfl kr_ (fun _ _ _ h => h) (za2 rfl) (za4 2 rfl rfl rfl kr_ (fun _ _ _ h => h) (za2 rfl) (za4 3 rfl rfl rfl kr_ (fun _ _ _ h => h) (za2 rfl) (za4 4 rfl rfl rfl kr_ (fun _ _ _ h => h) (q_ix Try.underlying23 Z3 rfl rfl hq89 hg384) (zau 5 rfl rfl rfl kr_ (fun _ _ _ h => h) (fun w h => za3 [some 0, some 1, some 2, none, some 4, some 5] dc_ w h rfl) (q_lde (off := 0) Y3 rfl rfl (fun w h => h.zar (i := 1) rfl) hg384 (fun _ _ h => h) rfl) (a_two 0 6 rfl rfl rfl rfl kr_ rfl rfl (ev_q rfl (q_ldB G25 Z25 rfl (fun w h => h.za9 (i := 3) rfl) rfl)) (fun s w h => za3 [some 0, some 1, some 2, none, some 4, some 5] dc_ w h rfl) (za6 0 Z Try.func120 N120 rfl rfl rfl (fun w P1 hF hB hS hT => spec_meOdd.calls y385 hB hF _ hx504)) (fun s w h => za3 [some 0, some 1, some 2, none, some 4, some 5] dc_ w h rfl) (fun _ => ?_) (fun _ => ?_)))))))
              · skip
                refine a_one 6 rfl rfl kr_ rfl (za6 0 Z Try.func120 N120 rfl rfl rfl (fun w P1 hF hB hS hT => spec_meOdd.calls y385 hB hF _ hx504)) (fun s w h => za3 [some 0, some 1, some 2, none, some 4, some 5] dc_ w h rfl) (fun _ => a_one 7 rfl rfl kr_ rfl (za6 0 Z Try.func110 N110 rfl rfl rfl (fun w P1 hF hB hS hT => spec_meTimes.calls 1 A114 c115 l113.length l113 A117 c118 l116.length l116 i120 i505 hB hF (hT 4 _ rfl).row (hT 4 _ rfl).cap (hT 5 _ rfl).row (hT 5 _ rfl).cap _ hx564)) (fun s w h => za3 [some 2, some 3, some 4, none, some 6, some 7] dc_ w h rfl) (cur2 (fun A566 c567 => za4 8 rfl rfl rfl kr_ (fun _ _ _ h => h) (za2 rfl) (za4 9 rfl rfl rfl kr_ (fun _ _ _ h => h) (q_ext rfl rfl) (za4 10 rfl rfl rfl kr_ (fun _ _ _ h => h) (q_ext rfl rfl) (a_one 11 rfl rfl kr_ rfl (zah (i := 5) rfl rfl rfl Z25 rfl rfl) (fun s w h => za3 [some 2, some 3, some 4, none, some 6, some 7] dc_ w h rfl) (fun _ => za4 12 rfl rfl rfl kr_ (fun _ _ _ h => h) (q_asg rfl) (zao kr_ (zak (za1 ?_))))))))))
                refine za0 (o_q rfl rfl (za2 rfl) (o_q rfl rfl (zb0 rfl rfl) (o_q rfl rfl (q_asg rfl) (o_end (x_fact (p := 0 = [].length) (fun w h => (h.row_C (i := 1) rfl).2.1) (fun hn984 => zan k104 (l565, [], w64 (i100 + 1), w64 (1 + (l113.length : Int)), A566, c567, none, 0) (Nat.lt_succ_self _) h ⟨rfl, rfl, trivial⟩ (f_pickE (L1 := [row kStep 107 (.slice A566 l565.length c567) l565, row (Kd.int .i64) 3 (.slice none 0 0) [], box g1 25 #[.int .i64 0, .slice none 0 0, .slice none 0 0], row (Kd.int .i64) 3 (.slice A6 l4.length c7) l4, row (Kd.int .i64) 3 (.slice A8 l5.length c9) l5, box g10 25 #[.int .i64 1, .slice A566 l565.length c567, .slice none 0 0], row kStep 107 (.slice A114 l113.length c115) l113, row (Kd.int .i64) 3 (.slice A117 l116.length c118) l116]) rfl [2, 3, 4, 5, 0, 1] dc_ rfl (by (try rw [hn984]); first | done | rfl)) ?_))))))
                exact of_
              · skip
                refine a_one 0 rfl rfl kr_ rfl (ev_q rfl (q_ldB G25 Z25 rfl (fun w h => h.za9 (i := 3) rfl) rfl)) (fun s w h => za3 [some 0, some 1, some 2, none, some 4, some 5] dc_ w h rfl) (fun _ => a_one 7 rfl rfl kr_ rfl (za6 0 Z Try.func110 N110 rfl rfl rfl (fun w P1 hF hB hS hT => spec_meTimes.calls 1 A114 c115 l113.length l113 A117 c118 l116.length l116 i120 i505 hB hF (hT 4 _ rfl).row (hT 4 _ rfl).cap (hT 5 _ rfl).row (hT 5 _ rfl).cap _ hx564)) (fun s w h => za3 [some 2, some 3, some 4, none, some 6, some 7] dc_ w h rfl) (cur2 (fun A566 c567 => za4 8 rfl rfl rfl kr_ (fun _ _ _ h => h) (za2 rfl) (za4 9 rfl rfl rfl kr_ (fun _ _ _ h => h) (q_ext rfl rfl) (za4 10 rfl rfl rfl kr_ (fun _ _ _ h => h) (q_ext rfl rfl) (a_one 11 rfl rfl kr_ rfl (zah (i := 5) rfl rfl rfl Z25 rfl rfl) (fun s w h => za3 [some 2, some 3, some 4, none, some 6, some 7] dc_ w h rfl) (fun _ => za4 12 rfl rfl rfl kr_ (fun _ _ _ h => h) (q_asg rfl) (zao kr_ (zak (za1 ?_))))))))))
                refine za0 (o_q rfl rfl (za2 rfl) (o_q rfl rfl (zb0 rfl rfl) (o_q rfl rfl (q_asg rfl) (o_end (x_fact (p := 0 = [].length) (fun w h => (h.row_C (i := 1) rfl).2.1) (fun hn984 => zan k104 (l565, [], w64 (i100 + 1), w64 (1 + (l113.length : Int)), A566, c567, none, 0) (Nat.lt_succ_self _) h ⟨rfl, rfl, trivial⟩ (f_pickE (L1 := [row kStep 107 (.slice A566 l565.length c567) l565, row (Kd.int .i64) 3 (.slice none 0 0) [], box g1 25 #[.int .i64 0, .slice none 0 0, .slice none 0 0], row (Kd.int .i64) 3 (.slice A6 l4.length c7) l4, row (Kd.int .i64) 3 (.slice A8 l5.length c9) l5, box g10 25 #[.int .i64 1, .slice A566 l565.length c567, .slice none 0 0], row kStep 107 (.slice A114 l113.length c115) l113, row (Kd.int .i64) 3 (.slice A117 l116.length c118) l116]) rfl [2, 3, 4, 5, 0, 1] dc_ rfl (by (try rw [hn984]); first | done | rfl)) ?_))))))
                exact of_
            · skip
              replace h := br_f hb142 h
              refine zam (zak (za1 (za0 (o_q rfl rfl (za2 rfl) (o_q rfl rfl (zb0 rfl rfl) (o_q rfl rfl (q_asg rfl) (o_end (zan k104 (l113, l116, w64 (i100 + 1), i120, A114, c115, A117, c118) (Nat.lt_succ_self _) h ⟨rfl, rfl, trivial⟩ (fun w h => za5 [0, 1, 2, 3, 4, 5] dc_ rfl w h) ?_))))))))
              exact of_
      · skip
        replace h := br_f hb112 h
        refine zb2 (za8 (za8 ?_))
        have e_ := si_ h; replace h := hR107; rw [← e_] at h; clear e_
        refine x_hit (za1 (c_seq (za0 (o_q rfl rfl (q_ldB G25 Z25 rfl (fun w h => h.za9 (i := 3) rfl) rfl) (o_q rfl rfl (za2 rfl) (o_pick [4, 0, 1, 2, 3, 5] dc_ rfl (za7 h (fun _ hx985 h => ?_) rfl)))))))
        refine o_e rfl (za6 1 Z Try.func112 N112 rfl rfl rfl (fun w P1 hF hB hS hT => spec_meEnd.calls 1 A95 c96 l94.length l94 A98 c99 l97.length l97 i101 hB hF (hT 4 _ rfl).row (hT 4 _ rfl).cap hx985)) (cur2 (fun A986 c987 => bindE2 h (fun l989 l990 hx988 h => ?_) rfl))
        refine o_e rfl (za6 0 Z Try.func111 N111 rfl rfl rfl (fun w P1 hF hB hS hT => spec_meTrim.calls k 1 A95 c96 l94.length l94 A986 c987 (([i101] : List Int).length) ([i101] : List Int) hB hF (hT 0 _ rfl).row (hT 0 _ rfl).cap (hT 1 _ rfl).row (hT 1 _ rfl).cap _ _ hx988)) (cur4 (fun A991 c992 A993 c994 => o_e rfl (zah (i := 4) rfl rfl rfl Z25 rfl rfl) (fun _ => o_end (za1 (c_ret ?_)))))
        have e0_ := si_ h; clear h
        obtain ⟨rfl, e1_⟩ := Prod.mk.inj e0_
        subst e1_
        exact x_r1 (A991, c992, A993, c994) Try.results66 (zb5 rfl G25 Z25 (fun w h => h.za9 (i := 4) rfl) rfl) rfl (fun w h => za5 [0, 1] dc_ rfl w h)

def spec_meFactor.l0 (a0 : Int) : Nat → Int → Option ((Int) ⊕ (Unit))
  | 0, _ => none
  | k4 + 1, i1 => if w64 (i1 * i1) ≤ a0 then ((nz i1).bind fun _ => if a0.tmod i1 = 0 then (some (.inl i1)) else (spec_meFactor.l0 a0 k4 (w64 (i1 + 1)))) else (some (.inr ()))
def spec_meFactor.f (k : Nat) (a0 : Int) : Option Int := (spec_meFactor.l0 a0 k 2).bind fun o_ => match o_ with | .inl r_ => some r_ | .inr _ => some a0
theorem spec_meFactor.calls (k : Nat) {w0 ws : World} {P0 : Nat → Prop} (a0 : Int) (Z : Below w0.heap.size w0 ws) (hF : Fr w0 ws P0 [] ws)  (r_1 : Int) (h : spec_meFactor.f k a0 = some r_1) :
    Calls Try.prog 150 #[.int .i64 a0] ws (Post1 w0 ws P0 (fun (_ : Unit) => .int .i64 r_1) (fun (_ : Unit) => [])) := by
  unfold spec_meFactor.f at h
  refine enter Try.func150 rfl Try.ntmps150 rfl hF (c_seq (za0 (o_q rfl rfl (q_asg rfl) (o_end (za1 (c_seq (c_seq (za0 (o_q rfl rfl (q_asg rfl) ?_)))))))))
  refine o_end (za1 (zai (za7 h (fun o9 hl8 hR7 => ?_) rfl)))
  clear h
  refine zaw (σ := Int) (fun k4 (i1 : Int) => spec_meFactor.l0 a0 k4 i1 = some o9) [2, 3, 4, 5, 6, 7, 8, 9, 10, 11, 12, 13, 14, 15] (fun (i1 : Int) => [(3, .int .i64 i1)]) (fun (i1 : Int) => []) k 2 hl8 ⟨rfl, trivial⟩ (fun w h => h) (natC (fun i1 => fun U10 hJ_ => ?_) (fun k4 => (fun i1 => fun U10 hJ_ => ?_)))
  · skip
    replace hJ_ : spec_meFactor.l0 a0 0 i1 = some o9 := hJ_
    rw [spec_meFactor.l0] at hJ_
    exact noneE hJ_
  · skip
    clear hl8
    have h := hJ_; clear hJ_
    replace h : spec_meFactor.l0 a0 (k4 + 1) i1 = some o9 := h
    rw [spec_meFactor.l0] at h
    refine c_seq (c_seq (za0 (o_q rfl rfl (za2 rfl) (o_q rfl rfl (za2 rfl) (o_q rfl rfl (q_mul64 rfl rfl) (o_q rfl rfl (za2 rfl) (o_q rfl rfl (q_leq rfl rfl) (o_end (za1 ?_)))))))))
    refine zaq _ rfl (fun hb12 => ?_) (fun hb12 => ?_)
    · skip
      replace h := br_t hb12 h
      refine zam (za1 (c_seq (zai (c_seq (za0 (o_q rfl rfl (za2 rfl) (o_q rfl rfl (za2 rfl) (za7 h (fun _ hz13 h => ?_) rfl))))))))
      refine o_q rfl rfl (q_rem rfl rfl (nz_ne hz13)) (o_q rfl rfl (q_eql rfl rfl) (o_end (za1 (zaq _ rfl (fun hb14 => ?_) (fun hb14 => ?_)))))
      · skip
        replace h := br_t hb14 h
        refine c_seq (za0 (o_q rfl rfl (za2 rfl) (o_q rfl rfl (q_asg rfl) (o_end (za1 (c_ret (zat (zab (zab ?_)))))))))
        have e_ := si_ h; replace h := hR7; rw [← e_] at h; clear e_
        refine zat (zab ?_)
        have e0_ := si_ h; clear h
        subst e0_
        exact x_r1 () Try.results150 (zal rfl) rfl (fun w h => za5 [] dc_ rfl w h)
      · skip
        replace h := br_f hb14 h
        refine zam (zak (za1 (za0 (o_q rfl rfl (za2 rfl) (o_q rfl rfl (zb0 rfl rfl) (o_q rfl rfl (q_asg rfl) (o_end (zan k4 (w64 (i1 + 1)) (Nat.lt_succ_self _) h ⟨rfl, trivial⟩ (fun w h => za5 [] dc_ rfl w h) ?_))))))))
        exact of_
    · skip
      replace h := br_f hb12 h
      refine zb2 (za8 (za8 ?_))
      have e_ := si_ h; replace h := hR7; rw [← e_] at h; clear e_
      refine x_hit (za1 (c_seq (za0 (o_q rfl rfl (za2 rfl) (o_q rfl rfl (q_asg rfl) (o_end (za1 (c_ret ?_))))))))
      have e0_ := si_ h; clear h
      subst e0_
      exact x_r1 () Try.results150 (zal rfl) rfl (fun w h => za5 [] dc_ rfl w h)

def spec_plThen.l1 (l14 : List Int) : (List Int) → (List Int) → Int → Option (List Int)
  | [], l32, i35 => some l32
  | y36 :: ys37, l32, i35 => (gt l14 y36).bind fun y49 => (ap l32 ([y49] : List Int)).bind fun l53 => spec_plThen.l1 l14 ys37 l53 (i35 + 1)
def spec_plThen.l0 (a1 : Int) : (List SStep) → (List Int) → (List SStep) → Int → Option ((List Int) × (List SStep))
  | [], l14, l17, i20 => some (l14, l17)
  | y21 :: ys22, l14, l17, i20 => (gt l14 y21.f0).bind fun y62 => (gt l14 y21.f1).bind fun y64 => (spec_plStep.f y62 y64).bind fun z66 => (ap l17 ([z66] : List SStep)).bind fun l70 => (ap l14 ([w64 (w64 (a1 + (l70.length : Int)) - 1)] : List Int)).bind fun l77 => spec_plThen.l0 a1 ys22 l77 l70 (i20 + 1)
def spec_plThen.f (l0 : List SStep) (a1 : Int) (a2_0 : Int) (l2_1 : List SStep) (l2_2 : List Int) (l3 : List Int) : Option ((List SStep) × (List Int)) := (spec_l1Own.f l3).bind fun l4 => (ap ([] : List SStep) l0).bind fun l10 => (spec_plThen.l0 a1 l2_1 l4 l10 0).bind fun (l14, l17) => (spec_plThen.l1 l14 l2_2 ([] : List Int) 0).bind fun l32 => some (l17, l32)
theorem spec_plThen.calls {w0 ws : World} {P0 : Nat → Prop} (A0 : Option Addr) (c0 : Nat) (n0 : Nat) (l0 : List SStep) (a1 : Int) (a2_0 : Int) (A2_1 : Option Addr) (c2_1 : Nat) (n2_1 : Nat) (l2_1 : List SStep) (A2_2 : Option Addr) (c2_2 : Nat) (n2_2 : Nat) (l2_2 : List Int) (A3 : Option Addr) (c3 : Nat) (n3 : Nat) (l3 : List Int) (Z : Below w0.heap.size w0 ws) (hF : Fr w0 ws P0 [] ws) (R0 : Stable ws P0 (fun w => Kd.C kStep w A0 n0 l0)) (hc0 : n0 ≤ c0) (R2_1 : Stable ws P0 (fun w => Kd.C kStep w A2_1 n2_1 l2_1)) (hc2_1 : n2_1 ≤ c2_1) (R2_2 : Stable ws P0 (fun w => Kd.C (Kd.int .i64) w A2_2 n2_2 l2_2)) (hc2_2 : n2_2 ≤ c2_2) (R3 : Stable ws P0 (fun w => Kd.C (Kd.int .i64) w A3 n3 l3)) (hc3 : n3 ≤ c3) (r_1 : List SStep) (r_4 : List Int) (h : spec_plThen.f l0 a1 a2_0 l2_1 l2_2 l3 = some (r_1, r_4)) :
    Calls Try.prog 151 #[.slice A0 n0 c0, .int .i64 a1, .agg #[.int .i64 a2_0, .slice A2_1 n2_1 c2_1, .slice A2_2 n2_2 c2_2], .slice A3 n3 c3] ws (Post1 w0 ws P0 (fun ((q_2, q_3, q_5, q_6) : (Option Addr) × Nat × (Option Addr) × Nat) => .tuple #[.slice q_2 r_1.length q_3, .slice q_5 r_4.length q_6]) (fun ((q_2, q_3, q_5, q_6) : (Option Addr) × Nat × (Option Addr) × Nat) => [row kStep 107 (.slice q_2 r_1.length q_3) r_1, row (Kd.int .i64) 3 (.slice q_5 r_4.length q_6) r_4])) := by
  unfold spec_plThen.f at h
  obtain rfl := (R0 ws (KeptB.refl _ _)).1
  obtain rfl := (R2_1 ws (KeptB.refl _ _)).1
  obtain rfl := (R2_2 ws (KeptB.refl _ _)).1
  obtain rfl := (R3 ws (KeptB.refl _ _)).1
  refine enter Try.func151 rfl Try.ntmps151 rfl hF (c_seq (za0 (o_e rfl (e_box rfl) (fun g1 => o_q rfl rfl (q_asg rfl) (o_q rfl rfl (q_asg rfl) (o_end (za1 (c_seq (za0 ?_)))))))))
  refine o_q rfl rfl (za2 rfl) (za7 h (fun l4 hx3 h => ?_) rfl)
  refine o_e rfl (za6 0 Z Try.func98 N98 rfl rfl rfl (fun w P1 hF hB hS hT => spec_l1Own.calls A3 c3 l3.length l3 hB hF (hS _ R3) hc3 _ hx3)) (cur2 (fun A5 c6 => o_q rfl rfl (q_asg rfl) (o_end (za1 (c_seq (za0 (o_e rfl (e_lit0 kStep Try.underlying22 I107) (cur2 (fun A7 c8 => o_q rfl rfl (za2 rfl) (za7 h (fun l10 ha11 h => ?_) rfl))))))))))
  refine o_e rfl (e_appr (i := 0) Try.underlying22 I107 rfl dc_ dc_ (fun _ _ _ _ h => h) rfl (fun w h => R0.now Z h) rfl rfl ha11) (cur2 (fun A12 c13 => o_q rfl rfl (q_asg rfl) (o_end (za1 (c_seq (c_seq (za0 (o_q rfl rfl (q_f F25_1 rfl) (o_q rfl rfl (q_ldb Y22 rfl (fun w h => h.za9 (i := 2) rfl) rfl) (o_q rfl rfl (q_len Try.underlying22 rfl) ?_))))))))))
  refine o_q rfl rfl (za2 rfl) (o_end (za1 (zai (za7 h (fun o28 hl27 hR26 => ?_) rfl))))
  clear h
  refine c_fact (p := l2_1.length ≤ 9223372036854775807) (fun w h => (R2_1.now Z h).2.1) (fun hm25 => zaw (σ := (List SStep) × (List Int) × (List SStep) × Int × (Option Addr) × Nat × (Option Addr) × Nat) (fun k23 ((ys22, l14, l17, i20, A15, c16, A18, c19) : (List SStep) × (List Int) × (List SStep) × Int × (Option Addr) × Nat × (Option Addr) × Nat) => Rg l2_1 i20 ys22 ∧ ys22.length = k23 ∧ spec_plThen.l0 a1 ys22 l14 l17 i20 = some o28) [10, 11, 13, 25, 26, 27, 28, 29, 30, 31, 32, 33, 34, 35, 36, 37, 38, 39, 40, 41, 42, 43, 44, 45, 46, 47, 48, 49, 50, 51] (fun ((ys22, l14, l17, i20, A15, c16, A18, c19) : (List SStep) × (List Int) × (List SStep) × Int × (Option Addr) × Nat × (Option Addr) × Nat) => [(10, .slice A15 l14.length c16), (11, .slice A18 l17.length c19), (25, .int .i64 i20)]) (fun ((ys22, l14, l17, i20, A15, c16, A18, c19) : (List SStep) × (List Int) × (List SStep) × Int × (Option Addr) × Nat × (Option Addr) × Nat) => [row kStep 107 (.slice A18 l17.length c19) l17, row (Kd.int .i64) 3 (.slice A15 l14.length c16) l14, box g1 25 #[.int .i64 a2_0, .slice A2_1 l2_1.length c2_1, .slice A2_2 l2_2.length c2_2]]) l2_1.length (l2_1, l4, l10, 0, A5, c6, A12, c13) ⟨Rg.start _, rfl, hl27⟩ ⟨rfl, rfl, rfl, trivial⟩ (fun w h => h) (fun k23 => cur8 (listC (fun l14 l17 i20 A15 c16 A18 c19 U29 hJ_ => ?_) (fun y21 ys22 l14 l17 i20 A15 c16 A18 c19 U29 hJ_ => ?_))))
  · skip
    clear hl27
    have hr24 := hJ_.1; have hk30 := hJ_.2.1; have h := hJ_.2.2; clear hJ_
    replace h : spec_plThen.l0 a1 [] l14 l17 i20 = some o28 := h
    rw [spec_plThen.l0] at h
    refine c_seq (za0 (o_q rfl rfl (q_lss rfl rfl) (o_end (za1 (c_seq (c_false (vb_ hr24.ge) (zb2 (za8 (za8 ?_)))))))))
    have e_ := si_ h; replace h := hR26; rw [← e_] at h; clear e_
    refine x_hit (za1 (c_seq (za0 (o_q rfl rfl (q_asg rfl) (o_end (za1 (c_seq (c_seq (za0 ?_)))))))))
    refine o_q rfl rfl (q_f F25_2 rfl) (o_q rfl rfl (q_ldb Y23 rfl (fun w h => h.za9 (i := 2) rfl) rfl) (o_q rfl rfl (q_len Try.underlying23 rfl) (o_q rfl rfl (za2 rfl) (o_end (za1 (zai (c_nil (Kd.int .i64) 3 (za7 h (fun o43 hl42 hR41 => ?_) rfl))))))))
    clear h
    refine c_fact (p := l2_2.length ≤ 9223372036854775807) (fun w h => (R2_2.now Z h).2.1) (fun hm40 => zaw (σ := (List Int) × (List Int) × Int × (Option Addr) × Nat) (fun k38 ((ys37, l32, i35, A33, c34) : (List Int) × (List Int) × Int × (Option Addr) × Nat) => Rg l2_2 i35 ys37 ∧ ys37.length = k38 ∧ spec_plThen.l1 l14 ys37 l32 i35 = some o43) [14, 16, 55, 56, 57, 58, 59, 60, 61, 62, 63, 64, 65, 66] (fun ((ys37, l32, i35, A33, c34) : (List Int) × (List Int) × Int × (Option Addr) × Nat) => [(14, .slice A33 l32.length c34), (55, .int .i64 i35)]) (fun ((ys37, l32, i35, A33, c34) : (List Int) × (List Int) × Int × (Option Addr) × Nat) => [row (Kd.int .i64) 3 (.slice A33 l32.length c34) l32, row kStep 107 (.slice A18 l17.length c19) l17, row (Kd.int .i64) 3 (.slice A15 l14.length c16) l14, box g1 25 #[.int .i64 a2_0, .slice A2_1 l2_1.length c2_1, .slice A2_2 l2_2.length c2_2]]) l2_2.length (l2_2, ([] : List Int), 0, none, 0) ⟨Rg.start _, rfl, hl42⟩ ⟨rfl, rfl, trivial⟩ (fun w h => h) (fun k38 => cur5 (listC (fun l32 i35 A33 c34 U44 hJ_ => ?_) (fun y36 ys37 l32 i35 A33 c34 U44 hJ_ => ?_))))
    · skip
      clear hl42
      have hr39 := hJ_.1; have hk45 := hJ_.2.1; have h := hJ_.2.2; clear hJ_
      replace h : spec_plThen.l1 l14 [] l32 i35 = some o43 := h
      rw [spec_plThen.l1] at h
      refine c_seq (za0 (o_q rfl rfl (q_lss rfl rfl) (o_end (za1 (c_seq (c_false (vb_ hr39.ge) (zb2 (za8 (za8 ?_)))))))))
      have e_ := si_ h; replace h := hR41; rw [← e_] at h; clear e_
      refine x_hit (za1 (c_seq (za0 (o_q rfl rfl (za2 rfl) (o_q rfl rfl (za2 rfl) (o_q rfl rfl (q_asg rfl) (o_q rfl rfl (q_asg rfl) (o_end (za1 ?_)))))))))
      refine c_ret ?_
      have e0_ := si_ h; clear h
      obtain ⟨rfl, e1_⟩ := Prod.mk.inj e0_
      subst e1_
      exact x_r2 (A18, c19, A33, c34) Try.results151 (zal rfl) (zal rfl) rfl (fun w h => za5 [1, 0] dc_ rfl w h)
    · skip
      clear hl42
      have hr39 := hJ_.1; have hk45 := hJ_.2.1; have h := hJ_.2.2; clear hJ_
      replace h : spec_plThen.l1 l14 (y36 :: ys37) l32 i35 = some o43 := h
      rw [spec_plThen.l1] at h
      refine c_seq (za0 (o_q rfl rfl (q_lss rfl rfl) (o_end (za1 (c_seq (zb8 (vb_ hr39.lt) (zam (za1 (c_seq ?_)))))))))
      refine zai (c_seq (za0 (zb4 (p := Sh A2_2 l2_2.length l2_2.length) (fun w h => f_sh (dk := (Kd.int .i64)) h (fun w h => R2_2.now Z h)) (fun hq46 => o_q rfl rfl (q_ix Try.underlying23 Z3 rfl rfl hq46 hr39.get) (o_q rfl rfl (q_lde (off := 0) Y3 rfl rfl (fun w h => R2_2.now Z h) hr39.get (fun _ _ h => h) rfl) (o_q rfl rfl (q_asg rfl) (o_end (za1 (za0 ?_)))))))))
      refine o_q rfl rfl (za2 rfl) (o_q rfl rfl (za2 rfl) (o_q rfl rfl (za2 rfl) (zb4 (p := Sh A15 l14.length l14.length) (fun w h => f_sh (dk := (Kd.int .i64)) h (fun w h => h.zar (i := 2) rfl)) (fun hq47 => za7 h (fun y49 hg48 h => ?_) rfl))))
      refine o_q rfl rfl (q_ix Try.underlying23 Z3 rfl rfl hq47 hg48) (o_q rfl rfl (q_lde (off := 0) Y3 rfl rfl (fun w h => h.zar (i := 2) rfl) hg48 (fun _ _ h => h) rfl) (o_e rfl (e_lit (vs := [(0, .int .i64 y49)]) (cs := [.int .i64 y49]) (Kd.int .i64) ([y49] : List Int) Try.underlying23 I3 dc_ rfl dc_ rfl rfl (fun _ _ => Kd.zad _)) (cur2 (fun A50 c51 => za7 h (fun l53 ha54 h => ?_) rfl))))
      refine o_e rfl (e_app (i := 1) (j := 0) Try.underlying23 I3 rfl dc_ dc_ rfl rfl rfl rfl rfl ha54) (cur2 (fun A55 c56 => o_q rfl rfl (q_asg rfl) (o_end (zak (za1 (za0 (o_q rfl rfl (q_up rfl rfl (hr39.up hm40)) (o_q rfl rfl (za2 rfl) (o_end (zan ys37.length (ys37, l53, i35 + 1, A55, c56) (by rw [← hk45]; exact Nat.lt_succ_self _) ⟨hr39.step, rfl, h⟩ ⟨rfl, rfl, trivial⟩ (fun w h => za5 [1, 2, 3, 4] dc_ rfl w h) ?_))))))))))
      exact of_
  · skip
    clear hl27
    have hr24 := hJ_.1; have hk30 := hJ_.2.1; have h := hJ_.2.2; clear hJ_
    replace h : spec_plThen.l0 a1 (y21 :: ys22) l14 l17 i20 = some o28 := h
    rw [spec_plThen.l0] at h
    refine c_seq (za0 (o_q rfl rfl (q_lss rfl rfl) (o_end (za1 (c_seq (zb8 (vb_ hr24.lt) (zam (za1 (c_seq ?_)))))))))
    refine zai (c_seq (za0 (zb4 (p := Sh A2_1 l2_1.length l2_1.length) (fun w h => f_sh (dk := kStep) h (fun w h => R2_1.now Z h)) (fun hq57 => o_q rfl rfl (q_ix Try.underlying22 Z107 rfl rfl hq57 hr24.get) (o_q rfl rfl (q_ldE G107 Z107 rfl rfl (fun w h => R2_1.now Z h) hr24.get (fun _ _ h => h) rfl) (o_e rfl (zaf V107 rfl) (fun g58 => o_e rfl (zah (i := 0) rfl rfl rfl Z107 rfl rfl) (fun _ => o_end (za1 ?_)))))))))
    refine c_seq (a_startS (ds := []) [some 0, none, some 2, some 3] MO rfl (za4 0 rfl rfl rfl kr_ (fun _ _ _ h => h) (za2 rfl) (za4 1 rfl rfl rfl kr_ (fun _ _ _ h => h) (za2 rfl) (za4 2 rfl rfl rfl kr_ (fun _ _ _ h => h) (q_f F107_0 rfl) (zau 3 rfl rfl rfl kr_ (fun _ _ _ h => h) (fun w h => za3 [some 0, none, some 2, some 3] dc_ w h rfl) (q_ldb Y3 rfl (fun w h => h.za9 (i := 0) rfl) rfl) (a_fact (p := Sh A15 l14.length l14.length) (fun w h => f_sh (dk := (Kd.int .i64)) h (fun w h => h.zar (i := 2) rfl)) (fun hq60 => za7 h (fun y62 hg61 h => ?_) rfl)))))))
    refine za4 4 rfl rfl rfl kr_ (fun _ _ _ h => h) (q_ix Try.underlying23 Z3 rfl rfl hq60 hg61) (zau 5 rfl rfl rfl kr_ (fun _ _ _ h => h) (fun w h => za3 [some 0, none, some 2, some 3] dc_ w h rfl) (q_lde (off := 0) Y3 rfl rfl (fun w h => h.zar (i := 2) rfl) hg61 (fun _ _ h => h) rfl) (za4 6 rfl rfl rfl kr_ (fun _ _ _ h => h) (za2 rfl) (za4 7 rfl rfl rfl kr_ (fun _ _ _ h => h) (q_f F107_1 rfl) (zau 8 rfl rfl rfl kr_ (fun _ _ _ h => h) (fun w h => za3 [some 0, none, some 2, some 3] dc_ w h rfl) (q_ldb Y3 rfl (fun w h => h.za9 (i := 0) rfl) rfl) (za7 h (fun y64 hg63 h => ?_) rfl)))))
    refine za4 9 rfl rfl rfl kr_ (fun _ _ _ h => h) (q_ix Try.underlying23 Z3 rfl rfl hq60 hg63) (zau 10 rfl rfl rfl kr_ (fun _ _ _ h => h) (fun w h => za3 [some 0, none, some 2, some 3] dc_ w h rfl) (q_lde (off := 0) Y3 rfl rfl (fun w h => h.zar (i := 2) rfl) hg63 (fun _ _ h => h) rfl) (za7 h (fun z66 hx65 h => ?_) rfl))
    refine a_one 11 rfl rfl kr_ rfl (za6 0 Z Try.func146 N146 rfl rfl rfl (fun w P1 hF hB hS hT => spec_plStep.calls y62 y64 hB hF _ hx65)) (fun s w h => za3 [some 0, none, some 2, some 3] dc_ w h rfl) (fun _ => a_one 12 rfl rfl kr_ rfl (e_lit (vs := [(0, .agg #[.int .i64 z66.f0, .int .i64 z66.f1])]) (cs := [.int .i64 z66.f0, .int .i64 z66.f1]) kStep ([z66] : List SStep) Try.underlying22 I107 dc_ rfl dc_ rfl rfl (fun _ _ => reps_flat _)) (fun s w h => za3 [some 1, none, some 3, some 4] dc_ w h rfl) (cur2 (fun A67 c68 => za7 h (fun l70 ha71 h => ?_) rfl)))
    refine a_one 13 rfl rfl kr_ rfl (e_app (i := 2) (j := 0) Try.underlying22 I107 rfl dc_ dc_ rfl rfl rfl rfl rfl ha71) (fun s w h => za3 [some 1, none, some 3, some 4] dc_ w h rfl) (cur2 (fun A72 c73 => za4 14 rfl rfl rfl kr_ (fun _ _ _ h => h) (q_asg rfl) (zao kr_ (za1 (za0 (o_q rfl rfl (za2 rfl) (o_q rfl rfl (za2 rfl) (o_q rfl rfl (za2 rfl) (o_q rfl rfl (q_len Try.underlying22 rfl) (o_q rfl rfl (zb0 rfl rfl) ?_))))))))))
    refine o_q rfl rfl (zb1 rfl rfl) (o_e rfl (e_lit (vs := [(0, .int .i64 (w64 (w64 (a1 + (l70.length : Int)) - 1)))]) (cs := [.int .i64 (w64 (w64 (a1 + (l70.length : Int)) - 1))]) (Kd.int .i64) ([w64 (w64 (a1 + (l70.length : Int)) - 1)] : List Int) Try.underlying23 I3 dc_ rfl dc_ rfl rfl (fun _ _ => Kd.zad _)) (cur2 (fun A74 c75 => za7 h (fun l77 ha78 h => ?_) rfl)))
    refine o_e rfl (e_app (i := 4) (j := 0) Try.underlying23 I3 rfl dc_ dc_ rfl rfl rfl rfl rfl ha78) (cur2 (fun A79 c80 => o_q rfl rfl (q_asg rfl) (o_end (zak (za1 (za0 (o_q rfl rfl (q_up rfl rfl (hr24.up hm25)) (o_q rfl rfl (za2 rfl) (o_end (zan ys22.length (ys22, l77, l70, i20 + 1, A79, c80, A72, c73) (by rw [← hk30]; exact Nat.lt_succ_self _) ⟨hr24.step, rfl, h⟩ ⟨rfl, rfl, rfl, trivial⟩ (fun w h => za5 [3, 4, 5] dc_ rfl w h) ?_))))))))))
    exact of_

end Go.Proofs.Ytiaohjciddbpoaa.H9
