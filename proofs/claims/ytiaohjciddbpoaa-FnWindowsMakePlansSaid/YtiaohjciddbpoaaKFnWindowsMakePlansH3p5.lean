import Derived.Test.YtiaohjciddbpoaaKFnWindowsMakePlansH3p4
namespace Go.Proofs.Ytiaohjciddbpoaa.H3
open Go.RowKit Go.Proofs.Ytiaohjciddbpoaa.Frame Go.Proofs.YtiaohjciddbpoaaW.PrintLast Go.Proofs.Ytiaohjciddbpoaa.Hand
open Go.Proofs.YtiaohjciddbpoaaW.PrintWords hiding mn mx
set_option linter.unusedVariables false
/-! ### loop.example/g01098/spec.meWindow: function 52 -/
def spec_meWindow.l2 (a1 : Int) : Nat → (List SStep) → (List Int) → Int → Int → Option ((List SStep) × (List Int) × Int)
  | 0, _, _, _, _ => none
  | k70 + 1, l60, l63, i66, i67 => if i66 < a1 then ((spec_meTimes.f 1 l60 l63 i67 i67).bind fun l80 => spec_meWindow.l2 a1 k70 l80 [] (w64 (i66 + 1)) (w64 (1 + (l60.length : Int)))) else (some (l60, l63, i67))
def spec_meWindow.l1 (k : Nat) (a1 : Int) (l5 : List Int) : Nat → (List SStep) → (List Int) → Int → Int → Option ((List SStep) × (List Int) × Int)
  | 0, _, _, _, _ => none
  | k51 + 1, l41, l44, i47, i48 => if 0 ≤ i48 then ((spec_meWindow.l2 a1 k l41 l44 0 i47).bind fun (l60, l63, i67) => (gt l5 i48).bind fun y85 => if 0 < y85 then ((gt l5 i48).bind fun y88 => (spec_meTimes.f 1 l60 l63 i67 (w64 (y88 - 1))).bind fun l90 => spec_meWindow.l1 k a1 l5 k51 l90 [] (w64 (1 + (l60.length : Int))) (w64 (i48 - 1))) else (spec_meWindow.l1 k a1 l5 k51 l60 l63 i67 (w64 (i48 - 1)))) else (some (l41, l44, i47))
def spec_meWindow.l0 (l5 : List Int) : Nat → (List SStep) → (List Int) → Int → Int → Option ((List SStep) × (List Int))
  | 0, _, _, _, _ => none
  | k22 + 1, l12, l15, i18, i19 => (spec_meGreatest.f l5).bind fun i31 => if i19 ≤ i31 then ((spec_meTimes.f 1 l12 l15 i18 0).bind fun l34 => spec_meWindow.l0 l5 k22 l34 [] (w64 (1 + (l12.length : Int))) (w64 (i19 + 1))) else (some (l12, l15))
def spec_meWindow.f (k : Nat) (a0 : Int) (a1 : Int) : Option ((List SStep) × (List Int)) := (nn a1).bind fun _ => (spec_meDigits.f k a0 (IntKind.i64.wrap (1 * 2 ^ min (a1 : Int).toNat IntKind.i64.bits))).bind fun l5 => (spec_meWindow.l0 l5 k ([] : List SStep) ([] : List Int) 0 2).bind fun (l12, l15) => (gt l5 (w64 ((l5.length : Int) - 1))).bind fun y40 => (spec_meWindow.l1 k a1 l5 k l12 l15 (w64 (y40 - 1)) (w64 ((l5.length : Int) - 2))).bind fun (l41, l44, i47) => (spec_meEnd.f 1 l41 l44 i47).bind fun _ => (spec_meTrim.f k 1 l41 ([i47] : List Int)).bind fun (l98, l99) => some (l98, l99)
set_option maxHeartbeats 600000 in
set_option maxRecDepth 100000 in
theorem spec_meWindow.calls (k : Nat) {w0 ws : World} {P0 : Nat → Prop} (a0 : Int) (a1 : Int) (Z : Below w0.heap.size w0 ws) (hF : Fr w0 ws P0 [] ws)  (r_1 : List SStep) (r_4 : List Int) (h : spec_meWindow.f k a0 a1 = some (r_1, r_4)) :
    Calls Try.prog 52 #[.int .i64 a0, .int .i64 a1] ws (Post1 w0 ws P0 (fun ((q_2, q_3, q_5, q_6) : (Option Addr) × Nat × (Option Addr) × Nat) => .agg #[.int .i64 1, .slice q_2 r_1.length q_3, .slice q_5 r_4.length q_6]) (fun ((q_2, q_3, q_5, q_6) : (Option Addr) × Nat × (Option Addr) × Nat) => [row kStep 107 (.slice q_2 r_1.length q_3) r_1, row (Kd.int .i64) 3 (.slice q_5 r_4.length q_6) r_4])) := by
  unfold spec_meWindow.f at h
  refine enter Try.func52 rfl Try.ntmps52 rfl hF ?_
  refine c_seq ?_
  refine za0 ?_
  refine o_e rfl (zam V25 rfl) (fun g1 => ?_)
  refine o_end ?_
  refine za1 ?_
  refine c_seq ?_
  refine za0 ?_
  refine o_q rfl rfl (za2 rfl) ?_
  refine o_q rfl rfl (za2 rfl) ?_
  refine zab h (fun _ hz3 h => ?_) rfl
  refine o_q rfl rfl (q_shl rfl rfl (nn_le hz3)) ?_
  refine zab h (fun l5 hx4 h => ?_) rfl
  refine o_e rfl (za8 0 Z Try.func108 N108 rfl rfl rfl (fun w P1 hF hB hS hT => spec_meDigits.calls k a0 (IntKind.i64.wrap (1 * 2 ^ min (a1 : Int).toNat IntKind.i64.bits)) hB hF _ hx4)) (cur2 (fun A6 c7 => ?_))
  refine o_q rfl rfl (q_asg rfl) ?_
  refine o_end ?_
  refine za1 ?_
  refine c_seq ?_
  refine za0 ?_
  refine o_q rfl rfl (q_build (vs := [(0, .int .i64 1)]) (cs := [.int .i64 1, .slice none 0 0, .slice none 0 0]) rfl rfl) ?_
  refine o_e rfl (zam V25 rfl) (fun g8 => ?_)
  refine o_e rfl (zav (i := 0) rfl rfl rfl Z25 rfl rfl) (fun _ => ?_)
  refine o_end ?_
  refine za1 ?_
  refine c_seq ?_
  refine za0 ?_
  refine o_q rfl rfl (q_asg rfl) ?_
  refine o_end ?_
  refine za1 ?_
  refine c_seq ?_
  refine c_seq ?_
  refine za0 ?_
  refine o_q rfl rfl (q_asg rfl) ?_
  refine o_end ?_
  refine za1 ?_
  refine zaq ?_
  refine c_nil kStep 107 ?_
  refine c_nil (Kd.int .i64) 3 ?_
  refine zab h (fun o27 hl26 hR25 => ?_) rfl
  clear h
  refine zb3 (σ := (List SStep) × (List Int) × Int × Int × (Option Addr) × Nat × (Option Addr) × Nat) (fun k22 ((l12, l15, i18, i19, A13, c14, A16, c17) : (List SStep) × (List Int) × Int × Int × (Option Addr) × Nat × (Option Addr) × Nat) => spec_meWindow.l0 l5 k22 l12 l15 i18 i19 = some o27) [7, 8, 16, 17, 18, 19, 20, 21, 22, 23, 24, 25, 26, 27] (fun ((l12, l15, i18, i19, A13, c14, A16, c17) : (List SStep) × (List Int) × Int × Int × (Option Addr) × Nat × (Option Addr) × Nat) => [(7, .int .i64 i18), (8, .int .i64 i19)]) (fun ((l12, l15, i18, i19, A13, c14, A16, c17) : (List SStep) × (List Int) × Int × Int × (Option Addr) × Nat × (Option Addr) × Nat) => [row (Kd.int .i64) 3 (.slice A16 l15.length c17) l15, row kStep 107 (.slice A13 l12.length c14) l12, box g8 25 #[.int .i64 1, .slice A13 l12.length c14, .slice A16 l15.length c17], row (Kd.int .i64) 3 (.slice A6 l5.length c7) l5, box g1 25 #[.int .i64 0, .slice none 0 0, .slice none 0 0]]) k (([] : List SStep), ([] : List Int), 0, 2, none, 0, none, 0) hl26 ⟨rfl, rfl, trivial⟩ (fun w h => h) ?_
  refine natC (cur8 (fun l12 l15 i18 i19 A13 c14 A16 c17 => fun U28 hJ_ => ?_)) (fun k22 => (cur8 (fun l12 l15 i18 i19 A13 c14 A16 c17 => fun U28 hJ_ => ?_)))
  · skip
    replace hJ_ : spec_meWindow.l0 l5 0 l12 l15 i18 i19 = some o27 := hJ_
    rw [spec_meWindow.l0] at hJ_
    exact noneE hJ_
  · skip
    clear hl26
    have h := hJ_; clear hJ_
    replace h : spec_meWindow.l0 l5 (k22 + 1) l12 l15 i18 i19 = some o27 := h
    rw [spec_meWindow.l0] at h
    refine c_seq ?_
    refine c_seq ?_
    refine za0 ?_
    refine o_q rfl rfl (za2 rfl) ?_
    refine o_q rfl rfl (za2 rfl) ?_
    refine zab h (fun i31 hx30 h => ?_) rfl
    refine o_e rfl (za8 0 Z Try.func109 N109 rfl rfl rfl (fun w P1 hF hB hS hT => spec_meGreatest.calls A6 c7 l5.length l5 hB hF (hT 3 _ rfl).row (hT 3 _ rfl).cap _ hx30)) (fun _ => ?_)
    refine o_q rfl rfl (q_leq rfl rfl) ?_
    refine o_end ?_
    refine za1 ?_
    refine zb0 _ rfl (fun hb32 => ?_) (fun hb32 => ?_)
    · skip
      replace h := br_t hb32 h
      refine zat ?_
      refine za1 ?_
      refine c_seq ?_
      refine zaq ?_
      refine za0 ?_
      refine o_q rfl rfl (q_ldB G25 Z25 rfl (fun w h => h.zaj (i := 2) rfl) rfl) ?_
      refine o_q rfl rfl (za2 rfl) ?_
      refine zab h (fun l34 hx33 h => ?_) rfl
      refine o_e rfl (za8 0 Z Try.func110 N110 rfl rfl rfl (fun w P1 hF hB hS hT => spec_meTimes.calls 1 A13 c14 l12.length l12 A16 c17 l15.length l15 i18 0 hB hF (hT 1 _ rfl).row (hT 1 _ rfl).cap (hT 0 _ rfl).row (hT 0 _ rfl).cap _ hx33)) (cur2 (fun A35 c36 => ?_))
      refine o_q rfl rfl (za2 rfl) ?_
      refine o_q rfl rfl (q_ext rfl rfl) ?_
      refine o_q rfl rfl (q_ext rfl rfl) ?_
      refine o_e rfl (zav (i := 4) rfl rfl rfl Z25 rfl rfl) (fun _ => ?_)
      refine o_q rfl rfl (q_asg rfl) ?_
      refine o_end ?_
      refine zas ?_
      refine za1 ?_
      refine za0 ?_
      refine o_q rfl rfl (za2 rfl) ?_
      refine o_q rfl rfl (zb7 rfl rfl) ?_
      refine o_q rfl rfl (q_asg rfl) ?_
      refine o_end ?_
      refine x_fact (p := 0 = [].length) (fun w h => (h.row_C (i := 1) rfl).2.1) (fun hn37 => ?_)
      refine zar k22 (l34, [], w64 (1 + (l12.length : Int)), w64 (i19 + 1), A35, c36, none, 0) (Nat.lt_succ_self _) h ⟨rfl, rfl, trivial⟩ (f_pickE (L1 := [row kStep 107 (.slice A35 l34.length c36) l34, row (Kd.int .i64) 3 (.slice none 0 0) [], row (Kd.int .i64) 3 (.slice A16 l15.length c17) l15, row kStep 107 (.slice A13 l12.length c14) l12, box g8 25 #[.int .i64 1, .slice A35 l34.length c36, .slice none 0 0], row (Kd.int .i64) 3 (.slice A6 l5.length c7) l5, box g1 25 #[.int .i64 0, .slice none 0 0, .slice none 0 0]]) rfl [1, 0, 4, 5, 6] (by decide) rfl (by (try rw [hn37]); first | done | rfl)) ?_
      repeat (first | exact za9 _ _ | refine zae rfl ?_ | refine zaa rfl ?_ | refine zaf rfl ?_)
    · skip
      replace h := br_f hb32 h
      refine c_exit ?_
      refine zac ?_
      refine zac ?_
      have e_ := Option.some.inj h; replace h := hR25; rw [← e_] at h; clear e_
      refine x_hit ?_
      refine za1 ?_
      refine c_seq ?_
      refine za0 ?_
      refine o_q rfl rfl (za2 rfl) ?_
      refine o_q rfl rfl (za2 rfl) ?_
      refine o_q rfl rfl (q_len Try.underlying23 rfl) ?_
      refine o_q rfl rfl (zb5 rfl rfl) ?_
      refine zb4 (p := Sh A6 l5.length l5.length) (fun w h => f_sh (dk := (Kd.int .i64)) h (fun w h => h.zaw (i := 3) rfl)) (fun hq38 => ?_)
      refine zab h (fun y40 hg39 h => ?_) rfl
      refine o_q rfl rfl (q_ix Try.underlying23 Z3 rfl rfl hq38 hg39) ?_
      refine o_q rfl rfl (q_lde (off := 0) Y3 rfl rfl (fun w h => h.zaw (i := 3) rfl) hg39 (fun _ _ h => h) rfl) ?_
      refine o_q rfl rfl (zb5 rfl rfl) ?_
      refine o_q rfl rfl (q_asg rfl) ?_
      refine o_end ?_
      refine za1 ?_
      refine c_seq ?_
      refine c_seq ?_
      refine za0 ?_
      refine o_q rfl rfl (za2 rfl) ?_
      refine o_q rfl rfl (q_len Try.underlying23 rfl) ?_
      refine o_q rfl rfl (zb5 rfl rfl) ?_
      refine o_q rfl rfl (q_asg rfl) ?_
      refine o_end ?_
      refine za1 ?_
      refine zaq ?_
      refine zab h (fun o56 hl55 hR54 => ?_) rfl
      clear h
      refine zb3 (σ := (List SStep) × (List Int) × Int × Int × (Option Addr) × Nat × (Option Addr) × Nat) (fun k51 ((l41, l44, i47, i48, A42, c43, A45, c46) : (List SStep) × (List Int) × Int × Int × (Option Addr) × Nat × (Option Addr) × Nat) => spec_meWindow.l1 k a1 l5 k51 l41 l44 i47 i48 = some o56) [7, 9, 10, 38, 39, 40, 41, 42, 43, 44, 45, 46, 47, 48, 49, 50, 51, 52, 53, 54, 55, 56, 57, 58, 59, 60, 61, 62, 63, 64, 65, 66, 67, 68, 69] (fun ((l41, l44, i47, i48, A42, c43, A45, c46) : (List SStep) × (List Int) × Int × Int × (Option Addr) × Nat × (Option Addr) × Nat) => [(7, .int .i64 i47), (9, .int .i64 i48)]) (fun ((l41, l44, i47, i48, A42, c43, A45, c46) : (List SStep) × (List Int) × Int × Int × (Option Addr) × Nat × (Option Addr) × Nat) => [row (Kd.int .i64) 3 (.slice A45 l44.length c46) l44, row kStep 107 (.slice A42 l41.length c43) l41, box g8 25 #[.int .i64 1, .slice A42 l41.length c43, .slice A45 l44.length c46], row (Kd.int .i64) 3 (.slice A6 l5.length c7) l5, box g1 25 #[.int .i64 0, .slice none 0 0, .slice none 0 0]]) k (l12, l15, w64 (y40 - 1), w64 ((l5.length : Int) - 2), A13, c14, A16, c17) hl55 ⟨rfl, rfl, trivial⟩ (fun w h => h) ?_
      refine natC (cur8 (fun l41 l44 i47 i48 A42 c43 A45 c46 => fun U57 hJ_ => ?_)) (fun k51 => (cur8 (fun l41 l44 i47 i48 A42 c43 A45 c46 => fun U57 hJ_ => ?_)))
      · skip
        replace hJ_ : spec_meWindow.l1 k a1 l5 0 l41 l44 i47 i48 = some o56 := hJ_
        rw [spec_meWindow.l1] at hJ_
        exact noneE hJ_
      · skip
        clear hl55
        have h := hJ_; clear hJ_
        replace h : spec_meWindow.l1 k a1 l5 (k51 + 1) l41 l44 i47 i48 = some o56 := h
        rw [spec_meWindow.l1] at h
        refine c_seq ?_
        refine c_seq ?_
        refine za0 ?_
        refine o_q rfl rfl (za2 rfl) ?_
        refine o_q rfl rfl (q_geq rfl rfl) ?_
        refine o_end ?_
        refine za1 ?_
        refine zb0 _ rfl (fun hb59 => ?_) (fun hb59 => ?_)
        · skip
          replace h := br_t hb59 h
          refine zat ?_
          refine za1 ?_
          refine c_seq ?_
          refine zaq ?_
          refine c_seq ?_
          refine c_seq ?_
          refine za0 ?_
          refine o_q rfl rfl (q_asg rfl) ?_
          refine o_end ?_
          refine za1 ?_
          refine zaq ?_
          refine zab h (fun o75 hl74 hR73 => ?_) rfl
          clear h
          refine zb3 (σ := (List SStep) × (List Int) × Int × Int × (Option Addr) × Nat × (Option Addr) × Nat) (fun k70 ((l60, l63, i66, i67, A61, c62, A64, c65) : (List SStep) × (List Int) × Int × Int × (Option Addr) × Nat × (Option Addr) × Nat) => spec_meWindow.l2 a1 k70 l60 l63 i66 i67 = some o75) [7, 10, 42, 43, 44, 45, 46, 47, 48, 49, 50, 51, 52, 53] (fun ((l60, l63, i66, i67, A61, c62, A64, c65) : (List SStep) × (List Int) × Int × Int × (Option Addr) × Nat × (Option Addr) × Nat) => [(7, .int .i64 i67), (10, .int .i64 i66)]) (fun ((l60, l63, i66, i67, A61, c62, A64, c65) : (List SStep) × (List Int) × Int × Int × (Option Addr) × Nat × (Option Addr) × Nat) => [row (Kd.int .i64) 3 (.slice A64 l63.length c65) l63, row kStep 107 (.slice A61 l60.length c62) l60, box g8 25 #[.int .i64 1, .slice A61 l60.length c62, .slice A64 l63.length c65], row (Kd.int .i64) 3 (.slice A6 l5.length c7) l5, box g1 25 #[.int .i64 0, .slice none 0 0, .slice none 0 0]]) k (l41, l44, 0, i47, A42, c43, A45, c46) hl74 ⟨rfl, rfl, trivial⟩ (fun w h => h) ?_
          refine natC (cur8 (fun l60 l63 i66 i67 A61 c62 A64 c65 => fun U76 hJ_ => ?_)) (fun k70 => (cur8 (fun l60 l63 i66 i67 A61 c62 A64 c65 => fun U76 hJ_ => ?_)))
          · skip
            replace hJ_ : spec_meWindow.l2 a1 0 l60 l63 i66 i67 = some o75 := hJ_
            rw [spec_meWindow.l2] at hJ_
            exact noneE hJ_
          · skip
            clear hl74
            have h := hJ_; clear hJ_
            replace h : spec_meWindow.l2 a1 (k70 + 1) l60 l63 i66 i67 = some o75 := h
            rw [spec_meWindow.l2] at h
            refine c_seq ?_
            refine c_seq ?_
            refine za0 ?_
            refine o_q rfl rfl (za2 rfl) ?_
            refine o_q rfl rfl (za2 rfl) ?_
            refine o_q rfl rfl (q_lss rfl rfl) ?_
            refine o_end ?_
            refine za1 ?_
            refine zb0 _ rfl (fun hb78 => ?_) (fun hb78 => ?_)
            · skip
              replace h := br_t hb78 h
              refine zat ?_
              refine za1 ?_
              refine c_seq ?_
              refine zaq ?_
              refine za0 ?_
              refine o_q rfl rfl (q_ldB G25 Z25 rfl (fun w h => h.zaj (i := 2) rfl) rfl) ?_
              refine o_q rfl rfl (za2 rfl) ?_
              refine o_q rfl rfl (za2 rfl) ?_
              refine zab h (fun l80 hx79 h => ?_) rfl
              refine o_e rfl (za8 0 Z Try.func110 N110 rfl rfl rfl (fun w P1 hF hB hS hT => spec_meTimes.calls 1 A61 c62 l60.length l60 A64 c65 l63.length l63 i67 i67 hB hF (hT 1 _ rfl).row (hT 1 _ rfl).cap (hT 0 _ rfl).row (hT 0 _ rfl).cap _ hx79)) (cur2 (fun A81 c82 => ?_))
              refine o_q rfl rfl (za2 rfl) ?_
              refine o_q rfl rfl (q_ext rfl rfl) ?_
              refine o_q rfl rfl (q_ext rfl rfl) ?_
              refine o_e rfl (zav (i := 4) rfl rfl rfl Z25 rfl rfl) (fun _ => ?_)
              refine o_q rfl rfl (q_asg rfl) ?_
              refine o_end ?_
              refine zas ?_
              refine za1 ?_
              refine za0 ?_
              refine o_q rfl rfl (za2 rfl) ?_
              refine o_q rfl rfl (zb7 rfl rfl) ?_
              refine o_q rfl rfl (q_asg rfl) ?_
              refine o_end ?_
              refine x_fact (p := 0 = [].length) (fun w h => (h.row_C (i := 1) rfl).2.1) (fun hn83 => ?_)
              refine zar k70 (l80, [], w64 (i66 + 1), w64 (1 + (l60.length : Int)), A81, c82, none, 0) (Nat.lt_succ_self _) h ⟨rfl, rfl, trivial⟩ (f_pickE (L1 := [row kStep 107 (.slice A81 l80.length c82) l80, row (Kd.int .i64) 3 (.slice none 0 0) [], row (Kd.int .i64) 3 (.slice A64 l63.length c65) l63, row kStep 107 (.slice A61 l60.length c62) l60, box g8 25 #[.int .i64 1, .slice A81 l80.length c82, .slice none 0 0], row (Kd.int .i64) 3 (.slice A6 l5.length c7) l5, box g1 25 #[.int .i64 0, .slice none 0 0, .slice none 0 0]]) rfl [1, 0, 4, 5, 6] (by decide) rfl (by (try rw [hn83]); first | done | rfl)) ?_
              repeat (first | exact za9 _ _ | refine zae rfl ?_ | refine zaa rfl ?_ | refine zaf rfl ?_)
            · skip
              replace h := br_f hb78 h
              refine c_exit ?_
              refine zac ?_
              refine zac ?_
              have e_ := Option.some.inj h; replace h := hR73; rw [← e_] at h; clear e_
              refine x_hit ?_
              refine za1 ?_
              refine c_seq ?_
              refine za0 ?_
              refine o_q rfl rfl (za2 rfl) ?_
              refine o_q rfl rfl (za2 rfl) ?_
              refine zab h (fun y85 hg84 h => ?_) rfl
              refine o_q rfl rfl (q_ix Try.underlying23 Z3 rfl rfl hq38 hg84) ?_
              refine o_q rfl rfl (q_lde (off := 0) Y3 rfl rfl (fun w h => h.zaw (i := 3) rfl) hg84 (fun _ _ h => h) rfl) ?_
              refine o_q rfl rfl (q_gtr rfl rfl) ?_
              refine o_end ?_
              refine za1 ?_
              refine zb0 _ rfl (fun hb86 => ?_) (fun hb86 => ?_)
              · skip
                replace h := br_t hb86 h
                refine a_startS (ds := []) [some 0, some 1, none, some 3, some 4] MO rfl ?_
                refine za7 1 rfl rfl rfl (by kernel_rfl) (fun _ _ _ h => h) (za2 rfl) ?_
                refine za7 2 rfl rfl rfl (by kernel_rfl) (fun _ _ _ h => h) (za2 rfl) ?_
                refine za7 3 rfl rfl rfl (by kernel_rfl) (fun _ _ _ h => h) (za2 rfl) ?_
                refine zab h (fun y88 hg87 h => ?_) rfl
                refine za7 4 rfl rfl rfl (by kernel_rfl) (fun _ _ _ h => h) (q_ix Try.underlying23 Z3 rfl rfl hq38 hg87) ?_
                refine zb2 5 rfl rfl rfl (by kernel_rfl) (fun _ _ _ h => h) (fun w h => za3 [some 0, some 1, none, some 3, some 4] (by decide) w h rfl) (q_lde (off := 0) Y3 rfl rfl (fun w h => h.zaw (i := 3) rfl) hg87 (fun _ _ h => h) rfl) ?_
                refine za7 6 rfl rfl rfl (by kernel_rfl) (fun _ _ _ h => h) (zb5 rfl rfl) ?_
                refine a_one 0 rfl rfl (by kernel_rfl) rfl (ev_q rfl (q_ldB G25 Z25 rfl (fun w h => h.zaj (i := 2) rfl) rfl)) (fun s w h => za3 [some 0, some 1, none, some 3, some 4] (by decide) w h rfl) (fun _ => ?_)
                refine zab h (fun l90 hx89 h => ?_) rfl
                refine a_one 7 rfl rfl (by kernel_rfl) rfl (za8 0 Z Try.func110 N110 rfl rfl rfl (fun w P1 hF hB hS hT => spec_meTimes.calls 1 A61 c62 l60.length l60 A64 c65 l63.length l63 i67 (w64 (y88 - 1)) hB hF (hT 1 _ rfl).row (hT 1 _ rfl).cap (hT 0 _ rfl).row (hT 0 _ rfl).cap _ hx89)) (fun s w h => za3 [some 2, some 3, none, some 5, some 6] (by decide) w h rfl) (cur2 (fun A91 c92 => ?_))
                refine za7 8 rfl rfl rfl (by kernel_rfl) (fun _ _ _ h => h) (za2 rfl) ?_
                refine za7 9 rfl rfl rfl (by kernel_rfl) (fun _ _ _ h => h) (q_ext rfl rfl) ?_
                refine za7 10 rfl rfl rfl (by kernel_rfl) (fun _ _ _ h => h) (q_ext rfl rfl) ?_
                refine a_one 11 rfl rfl (by kernel_rfl) rfl (zav (i := 4) rfl rfl rfl Z25 rfl rfl) (fun s w h => za3 [some 2, some 3, none, some 5, some 6] (by decide) w h rfl) (fun _ => ?_)
                refine za7 12 rfl rfl rfl (by kernel_rfl) (fun _ _ _ h => h) (q_asg rfl) ?_
                refine zan (by kernel_rfl) ?_
                refine zas ?_
                refine za1 ?_
                refine za0 ?_
                refine o_q rfl rfl (za2 rfl) ?_
                refine o_q rfl rfl (zb5 rfl rfl) ?_
                refine o_q rfl rfl (q_asg rfl) ?_
                refine o_end ?_
                refine x_fact (p := 0 = [].length) (fun w h => (h.row_C (i := 1) rfl).2.1) (fun hn93 => ?_)
                refine zar k51 (l90, [], w64 (1 + (l60.length : Int)), w64 (i48 - 1), A91, c92, none, 0) (Nat.lt_succ_self _) h ⟨rfl, rfl, trivial⟩ (f_pickE (L1 := [row kStep 107 (.slice A91 l90.length c92) l90, row (Kd.int .i64) 3 (.slice none 0 0) [], row (Kd.int .i64) 3 (.slice A64 l63.length c65) l63, row kStep 107 (.slice A61 l60.length c62) l60, box g8 25 #[.int .i64 1, .slice A91 l90.length c92, .slice none 0 0], row (Kd.int .i64) 3 (.slice A6 l5.length c7) l5, box g1 25 #[.int .i64 0, .slice none 0 0, .slice none 0 0]]) rfl [1, 0, 4, 5, 6] (by decide) rfl (by (try rw [hn93]); first | done | rfl)) ?_
                repeat (first | exact za9 _ _ | refine zae rfl ?_ | refine zaa rfl ?_ | refine zaf rfl ?_)
              · skip
                replace h := br_f hb86 h
                refine zat ?_
                refine zas ?_
                refine za1 ?_
                refine za0 ?_
                refine o_q rfl rfl (za2 rfl) ?_
                refine o_q rfl rfl (zb5 rfl rfl) ?_
                refine o_q rfl rfl (q_asg rfl) ?_
                refine o_end ?_
                refine zar k51 (l60, l63, i67, w64 (i48 - 1), A61, c62, A64, c65) (Nat.lt_succ_self _) h ⟨rfl, rfl, trivial⟩ (fun w h => za6 [0, 1, 2, 3, 4] (by decide) rfl w h) ?_
                repeat (first | exact za9 _ _ | refine zae rfl ?_ | refine zaa rfl ?_ | refine zaf rfl ?_)
        · skip
          replace h := br_f hb59 h
          refine c_exit ?_
          refine zac ?_
          refine zac ?_
          have e_ := Option.some.inj h; replace h := hR54; rw [← e_] at h; clear e_
          refine x_hit ?_
          refine za1 ?_
          refine c_seq ?_
          refine za0 ?_
          refine o_q rfl rfl (q_ldB G25 Z25 rfl (fun w h => h.zaj (i := 2) rfl) rfl) ?_
          refine o_q rfl rfl (za2 rfl) ?_
          refine o_pick [1, 0, 2, 3, 4] (by decide) rfl ?_
          refine zab h (fun _ hx94 h => ?_) rfl
          refine o_e rfl (za8 1 Z Try.func112 N112 rfl rfl rfl (fun w P1 hF hB hS hT => spec_meEnd.calls 1 A42 c43 l41.length l41 A45 c46 l44.length l44 i47 hB hF (hT 0 _ rfl).row (hT 0 _ rfl).cap hx94)) (cur2 (fun A95 c96 => ?_))
          refine bindE2 h (fun l98 l99 hx97 h => ?_) rfl
          refine o_e rfl (za8 0 Z Try.func111 N111 rfl rfl rfl (fun w P1 hF hB hS hT => spec_meTrim.calls k 1 A42 c43 l41.length l41 A95 c96 (([i47] : List Int).length) ([i47] : List Int) hB hF (hT 0 _ rfl).row (hT 0 _ rfl).cap (hT 1 _ rfl).row (hT 1 _ rfl).cap _ _ hx97)) (cur4 (fun A100 c101 A102 c103 => ?_))
          refine o_e rfl (zav (i := 7) rfl rfl rfl Z25 rfl rfl) (fun _ => ?_)
          refine o_end ?_
          refine za1 ?_
          refine c_ret ?_
          have e0_ := Option.some.inj h; clear h
          have d0_ := (Prod.mk.inj e0_).1; have e1_ := (Prod.mk.inj e0_).2; clear e0_; subst d0_
          subst e1_
          exact x_r1 (A100, c101, A102, c103) Try.results52 (rv_cell rfl G25 Z25 (fun w h => h.zaj (i := 7) rfl) rfl) rfl (fun w h => za6 [0, 1] (by decide) rfl w h)

/-! ### loop.example/g01098/spec.WindowPlan: function 10 -/
def spec_WindowPlan.f (k : Nat) (a0 : Int) (a1 : Int) : Option (Int × (List SStep) × (List Int) × Bool) := ((spec_chNumber.f a0).bind fun b15 => if b15 = true then ((spec_meWide.f a1).bind fun b18 => some (!b18)) else (some true)).bind fun b8 => if b8 = true then (some (0, ([] : List SStep), ([] : List Int), false)) else ((spec_meWindow.f k a0 a1).bind fun (l21, l22) => (spec_plIf.f k 1 l21 l22).bind fun (i28, l29, l30, b31) => some (i28, l29, l30, b31))
set_option maxHeartbeats 600000 in
set_option maxRecDepth 100000 in
theorem spec_WindowPlan.calls (k : Nat) {w0 ws : World} {P0 : Nat → Prop} (a0 : Int) (a1 : Int) (Z : Below w0.heap.size w0 ws) (hF : Fr w0 ws P0 [] ws)  (r_1 : Int) (r_2 : List SStep) (r_5 : List Int) (r_8 : Bool) (h : spec_WindowPlan.f k a0 a1 = some (r_1, r_2, r_5, r_8)) :
    Calls Try.prog 10 #[.int .i64 a0, .int .i64 a1] ws (Post1 w0 ws P0 (fun ((q_3, q_4, q_6, q_7) : (Option Addr) × Nat × (Option Addr) × Nat) => .tuple #[.agg #[.int .i64 r_1, .slice q_3 r_2.length q_4, .slice q_6 r_5.length q_7], .bool r_8]) (fun ((q_3, q_4, q_6, q_7) : (Option Addr) × Nat × (Option Addr) × Nat) => [row kStep 107 (.slice q_3 r_2.length q_4) r_2, row (Kd.int .i64) 3 (.slice q_6 r_5.length q_7) r_5])) := by
  unfold spec_WindowPlan.f at h
  refine enter Try.func10 rfl Try.ntmps10 rfl hF ?_
  refine c_seq ?_
  refine za0 ?_
  refine o_e rfl (zam V25 rfl) (fun g1 => ?_)
  refine o_q rfl rfl (q_asg rfl) ?_
  refine o_end ?_
  refine za1 ?_
  refine c_seq ?_
  refine zab h (fun o9 hl10 hR11 => ?_) rfl
  clear h
  refine c_cutJ (σ := Bool) (fun b8 => some b8 = some o9) [6, 7, 8, 9, 10, 11, 12, 13] (fun b8 => [(13, .bool b8)]) (fun b8 => [box g1 25 #[.int .i64 0, .slice none 0 0, .slice none 0 0]]) ?_ ?_
  · skip
    have h := hl10; clear hl10
    clear hR11
    refine za0 ?_
    refine o_q rfl rfl (za2 rfl) ?_
    refine zab h (fun b15 hx14 h => ?_) rfl
    refine o_e rfl (za8 0 Z Try.func49 N49 rfl rfl rfl (fun w P1 hF hB hS hT => spec_chNumber.calls a0 hB hF _ hx14)) (fun _ => ?_)
    refine o_q rfl rfl (q_not rfl) ?_
    refine o_q rfl rfl (za2 rfl) ?_
    refine byB b15 (fun hb16 => ?_) (fun hb16 => ?_)
    · replace h := bb_t hb16 h
      refine o_w (za5 rfl rfl rfl (congrArg (fun b => Value.bool (!(b))) hb16)) rfl (za2 rfl) ?_
      refine zab h (fun b18 hx17 h => ?_) rfl
      refine o_ew (za5 rfl rfl rfl (congrArg (fun b => Value.bool (!(b))) hb16)) (za8 0 Z Try.func50 N50 rfl rfl rfl (fun w P1 hF hB hS hT => spec_meWide.calls a1 hB hF _ hx17)) (fun _ => ?_)
      refine o_w (za5 rfl rfl rfl (congrArg (fun b => Value.bool (!(b))) hb16)) rfl (q_not rfl) ?_
      refine o_q rfl rfl (zau false (congrArg (fun b => Value.bool (!(b))) hb16) rfl) ?_
      refine o_end ?_
      refine zao (!b18) h ⟨rfl, trivial⟩ (fun w h => za6 [0] (by decide) rfl w h) ?_
      repeat (first | exact za9 _ _ | refine zae rfl ?_ | refine zaa rfl ?_ | refine zaf rfl ?_)
    · replace h := bb_f hb16 h
      refine @o_n _ _ _ _ _ _ _ _ _ _ _ 10 (za4 rfl rfl rfl (congrArg (fun b => Value.bool (!(b))) hb16) rfl) (Eq.refl (some 10)) ?_
      refine @o_n _ _ _ _ _ _ _ _ _ _ _ 11 (za4 rfl rfl rfl (congrArg (fun b => Value.bool (!(b))) hb16) rfl) (Eq.refl (some 11)) ?_
      refine @o_n _ _ _ _ _ _ _ _ _ _ _ 12 (za4 rfl rfl rfl (congrArg (fun b => Value.bool (!(b))) hb16) rfl) (Eq.refl (some 12)) ?_
      refine o_q rfl rfl (zau true (congrArg (fun b => Value.bool (!(b))) hb16) rfl) ?_
      refine o_end ?_
      refine zao true h ⟨rfl, trivial⟩ (fun w h => za6 [0] (by decide) rfl w h) ?_
      repeat (first | exact za9 _ _ | refine zae rfl ?_ | refine zaa rfl ?_ | refine zaf rfl ?_)
  · skip
    refine (fun b8 => fun U12 hJ13 => ?_)
    have e_ := Option.some.inj hJ13; have h := hR11; rw [← e_] at h; clear e_ hJ13 hR11 hl10
    refine zb0 _ rfl (fun hb19 => ?_) (fun hb19 => ?_)
    · skip
      replace h := bb_t hb19 h
      refine c_seq ?_
      refine za0 ?_
      refine o_q rfl rfl (q_build (vs := []) (cs := [.int .i64 0, .slice none 0 0, .slice none 0 0]) rfl rfl) ?_
      refine o_e rfl (zav (i := 0) rfl rfl rfl Z25 rfl rfl) (fun _ => ?_)
      refine o_q rfl rfl (q_asg rfl) ?_
      refine o_end ?_
      refine za1 ?_
      refine c_ret ?_
      refine zai ?_
      refine x_nil kStep 107 ?_
      refine x_nil (Kd.int .i64) 3 ?_
      have e0_ := Option.some.inj h; clear h
      have d0_ := (Prod.mk.inj e0_).1; have e1_ := (Prod.mk.inj e0_).2; clear e0_; subst d0_
      have d1_ := (Prod.mk.inj e1_).1; have e2_ := (Prod.mk.inj e1_).2; clear e1_; subst d1_
      have d2_ := (Prod.mk.inj e2_).1; have e3_ := (Prod.mk.inj e2_).2; clear e2_; subst d2_
      subst e3_
      exact x_r2 (none, 0, none, 0) Try.results10 (rv_cell rfl G25 Z25 (fun w h => h.zaj (i := 2) rfl) rfl) (zal rfl) rfl (fun w h => za6 [1, 0] (by decide) rfl w h)
    · skip
      replace h := bb_f hb19 h
      refine zat ?_
      refine za1 ?_
      refine c_seq ?_
      refine za0 ?_
      refine o_q rfl rfl (za2 rfl) ?_
      refine o_q rfl rfl (za2 rfl) ?_
      refine bindE2 h (fun l21 l22 hx20 h => ?_) rfl
      refine o_e rfl (za8 0 Z Try.func52 N52 rfl rfl rfl (fun w P1 hF hB hS hT => spec_meWindow.calls k a0 a1 hB hF _ _ hx20)) (cur4 (fun A23 c24 A25 c26 => ?_))
      refine bindE4 h (fun i28 l29 l30 b31 hx27 h => ?_) rfl
      refine o_e rfl (za8 2 Z Try.func51 N51 rfl rfl rfl (fun w P1 hF hB hS hT => spec_plIf.calls k 1 A23 c24 l21.length l21 A25 c26 l22.length l22 hB hF _ _ _ _ hx27)) (cur4 (fun A32 c33 A34 c35 => ?_))
      refine o_q rfl rfl (q_ext rfl rfl) ?_
      refine o_q rfl rfl (q_ext rfl rfl) ?_
      refine o_e rfl (zav (i := 2) rfl rfl rfl Z25 rfl rfl) (fun _ => ?_)
      refine o_q rfl rfl (q_asg rfl) ?_
      refine o_end ?_
      refine za1 ?_
      refine c_ret ?_
      have e0_ := Option.some.inj h; clear h
      have d0_ := (Prod.mk.inj e0_).1; have e1_ := (Prod.mk.inj e0_).2; clear e0_; subst d0_
      have d1_ := (Prod.mk.inj e1_).1; have e2_ := (Prod.mk.inj e1_).2; clear e1_; subst d1_
      have d2_ := (Prod.mk.inj e2_).1; have e3_ := (Prod.mk.inj e2_).2; clear e2_; subst d2_
      subst e3_
      exact x_r2 (A32, c33, A34, c35) Try.results10 (rv_cell rfl G25 Z25 (fun w h => h.zaj (i := 2) rfl) rfl) (zal rfl) rfl (fun w h => za6 [0, 1] (by decide) rfl w h)

/-! ### slices.Clone[[]int,int]: function 95 -/
def slices_Clone_int_int.f (l0 : List Int) : Option (List Int) := (ap ([] : List Int) l0).bind fun l5 => some l5
set_option maxHeartbeats 600000 in
set_option maxRecDepth 100000 in
theorem slices_Clone_int_int.calls {w0 ws : World} {P0 : Nat → Prop} (A0 : Option Addr) (c0 : Nat) (n0 : Nat) (l0 : List Int) (Z : Below w0.heap.size w0 ws) (hF : Fr w0 ws P0 [] ws) (R0 : Stable ws P0 (fun w => Kd.C (Kd.int .i64) w A0 n0 l0)) (hc0 : n0 ≤ c0) (r_1 : List Int) (h : slices_Clone_int_int.f l0 = some r_1) :
    Calls Try.prog 95 #[.slice A0 n0 c0] ws (Post1 w0 ws P0 (fun ((q_2, q_3) : (Option Addr) × Nat) => .slice q_2 r_1.length q_3) (fun ((q_2, q_3) : (Option Addr) × Nat) => [row (Kd.int .i64) 3 (.slice q_2 r_1.length q_3) r_1])) := by
  unfold slices_Clone_int_int.f at h
  obtain rfl := (R0 ws (KeptB.refl _ _)).1
  refine enter Try.func95 rfl Try.ntmps95 rfl hF ?_
  refine c_seq ?_
  refine za0 ?_
  refine o_q rfl rfl (q_asg rfl) ?_
  refine o_end ?_
  refine za1 ?_
  refine c_seq ?_
  refine c_seq ?_
  refine za0 ?_
  refine o_q rfl rfl (za2 rfl) ?_
  refine o_q rfl rfl (q_snil Try.underlying23 rfl rfl) ?_
  refine o_end ?_
  refine za1 ?_
  refine zb0 _ rfl (fun hb1 => ?_) (fun hb1 => ?_)
  · skip
    have hl_ := nil_of hb1 (R0 ws (KeptB.refl _ _)); subst hl_
    replace h : some ([] : List Int) = some r_1 := h
    refine c_seq ?_
    refine za0 ?_
    refine o_q rfl rfl (q_asg rfl) ?_
    refine o_end ?_
    refine za1 ?_
    refine c_ret ?_
    refine zai ?_
    refine x_nil (Kd.int .i64) 3 ?_
    have e0_ := Option.some.inj h; clear h
    subst e0_
    exact x_r1 (none, 0) Try.results95 (zal rfl) rfl (fun w h => za6 [0] (by decide) rfl w h)
  · skip
    refine zat ?_
    refine za1 ?_
    refine c_seq ?_
    refine za0 ?_
    refine o_e rfl (e_lit0 (Kd.int .i64) Try.underlying23 I3) (cur2 (fun A2 c3 => ?_))
    refine o_q rfl rfl (za2 rfl) ?_
    refine zab h (fun l5 ha6 h => ?_) rfl
    refine o_e rfl (e_appr (i := 0) Try.underlying23 I3 rfl (by decide) (by decide) (fun _ _ _ _ h => h) rfl (fun w h => R0.now Z h) rfl rfl ha6) (cur2 (fun A7 c8 => ?_))
    refine o_q rfl rfl (q_asg rfl) ?_
    refine o_end ?_
    refine za1 ?_
    refine c_ret ?_
    have e0_ := Option.some.inj h; clear h
    subst e0_
    exact x_r1 (A7, c8) Try.results95 (zal rfl) rfl (fun w h => za6 [0] (by decide) rfl w h)

/-! ### (*loop.example/g01098/impl.Plan).outputExponents: function 102 -/
def impl_Plan_outputExponents.l0 (l2 : List (List Int)) : (List Int) → (List (List Int)) → Int → Option (List (List Int))
  | [], l9, i13 => some l9
  | y14 :: ys15, l9, i13 => (gt l2 y14).bind fun y27 => (slices_Clone_int_int.f y27).bind fun l30 => (ap l9 ([l30] : List (List Int))).bind fun l37 => impl_Plan_outputExponents.l0 l2 ys15 l37 (i13 + 1)
def impl_Plan_outputExponents.f (a0_0 : Int) (l0_1 : List SStep) (l0_2 : List Int) : Option (List (List Int)) := (impl_Plan_exponents.f a0_0 l0_1 l0_2).bind fun l2 => (impl_Plan_outputExponents.l0 l2 l0_2 ([] : List (List Int)) 0).bind fun l9 => some l9
set_option maxHeartbeats 600000 in
set_option maxRecDepth 100000 in
theorem impl_Plan_outputExponents.calls {w0 ws : World} {P0 : Nat → Prop} (g0 : Nat) (a0_0 : Int) (A0_1 : Option Addr) (c0_1 : Nat) (n0_1 : Nat) (l0_1 : List SStep) (A0_2 : Option Addr) (c0_2 : Nat) (n0_2 : Nat) (l0_2 : List Int) (Z : Below w0.heap.size w0 ws) (hF : Fr w0 ws P0 [] ws) (R0_1 : Stable ws P0 (fun w => Kd.C kStep w A0_1 n0_1 l0_1)) (hc0_1 : n0_1 ≤ c0_1) (R0_2 : Stable ws P0 (fun w => Kd.C (Kd.int .i64) w A0_2 n0_2 l0_2)) (hc0_2 : n0_2 ≤ c0_2) (B0 : Stable ws P0 (fun w => w.heap[g0]? = some (.cells #[.int .i64 a0_0, .slice A0_1 n0_1 c0_1, .slice A0_2 n0_2 c0_2] 25 (0, 0)))) (r_1 : List (List Int)) (h : impl_Plan_outputExponents.f a0_0 l0_1 l0_2 = some r_1) :
    Calls Try.prog 102 #[.pointer (some ⟨g0, 0, none⟩)] ws (Post1 w0 ws P0 (fun ((q_2, q_3, q_4) : (Option Addr) × Nat × Hd) => .slice q_2 r_1.length q_3) (fun ((q_2, q_3, q_4) : (Option Addr) × Nat × Hd) => [row (gk 3 (Kd.int .i64)) 23 (.slice q_2 r_1.length q_3) (zp q_4 r_1)])) := by
  unfold impl_Plan_outputExponents.f at h
  obtain rfl := (R0_1 ws (KeptB.refl _ _)).1
  obtain rfl := (R0_2 ws (KeptB.refl _ _)).1
  refine enter Try.func102 rfl Try.ntmps102 rfl hF ?_
  refine c_seq ?_
  refine za0 ?_
  refine o_q rfl rfl (q_asg rfl) ?_
  refine o_end ?_
  refine za1 ?_
  refine c_seq ?_
  refine za0 ?_
  refine o_q rfl rfl (za2 rfl) ?_
  refine zab h (fun l2 hx1 h => ?_) rfl
  refine o_e rfl (za8 0 Z Try.func138 N138 rfl rfl rfl (fun w P1 hF hB hS hT => impl_Plan_exponents.calls g0 a0_0 A0_1 c0_1 l0_1.length l0_1 A0_2 c0_2 l0_2.length l0_2 hB hF (hS _ R0_1) hc0_1 (hS _ R0_2) hc0_2 (hS _ B0) _ hx1)) (cur3 (fun A3 c4 H5 => ?_))
  refine o_e rfl (e_lit0 (gk 3 (Kd.int .i64)) Try.underlying47 I23) (cur2 (fun A6 c7 => ?_))
  refine o_q rfl rfl (q_asg rfl) ?_
  refine o_q rfl rfl (q_asg rfl) ?_
  refine o_end ?_
  refine za1 ?_
  refine c_seq ?_
  refine c_seq ?_
  refine za0 ?_
  refine o_q rfl rfl (za2 rfl) ?_
  refine o_q rfl rfl (q_nil rfl) ?_
  refine o_q rfl rfl (q_f F25_2 rfl) ?_
  refine o_q rfl rfl (q_ldb Y23 rfl (fun w h => B0.now Z h) rfl) ?_
  refine o_q rfl rfl (q_len Try.underlying23 rfl) ?_
  refine o_q rfl rfl (za2 rfl) ?_
  refine o_end ?_
  refine za1 ?_
  refine zaq ?_
  refine zab h (fun o21 hl20 hR19 => ?_) rfl
  clear h
  refine c_fact (p := l0_2.length ≤ 9223372036854775807) (fun w h => (R0_2.now Z h).2.1) (fun hm18 => ?_)
  refine zb3 (σ := (List Int) × (List (List Int)) × Int × (Option Addr) × Nat × Hd) (fun k16 ((ys15, l9, i13, A10, c11, H12) : (List Int) × (List (List Int)) × Int × (Option Addr) × Nat × Hd) => Rg l0_2 i13 ys15 ∧ ys15.length = k16 ∧ impl_Plan_outputExponents.l0 l2 ys15 l9 i13 = some o21) [4, 6, 15, 16, 17, 18, 19, 20, 21, 22, 23, 24, 25, 26, 27] (fun ((ys15, l9, i13, A10, c11, H12) : (List Int) × (List (List Int)) × Int × (Option Addr) × Nat × Hd) => [(4, .slice A10 l9.length c11), (15, .int .i64 i13)]) (fun ((ys15, l9, i13, A10, c11, H12) : (List Int) × (List (List Int)) × Int × (Option Addr) × Nat × Hd) => [row (gk 3 (Kd.int .i64)) 23 (.slice A10 l9.length c11) (zp H12 l9), row (gk 3 (Kd.int .i64)) 23 (.slice A3 l2.length c4) (zp H5 l2)]) l0_2.length (l0_2, ([] : List (List Int)), 0, A6, c7, ([] : Hd)) ⟨Rg.start _, rfl, hl20⟩ ⟨rfl, rfl, trivial⟩ (fun w h => h) ?_
  refine fun k16 => cur6 (listC (fun l9 i13 A10 c11 H12 U22 hJ_ => ?_) (fun y14 ys15 l9 i13 A10 c11 H12 U22 hJ_ => ?_))
  · skip
    clear hl20
    have hr17 := hJ_.1; have hk23 := hJ_.2.1; have h := hJ_.2.2; clear hJ_
    replace h : impl_Plan_outputExponents.l0 l2 [] l9 i13 = some o21 := h
    rw [impl_Plan_outputExponents.l0] at h
    refine c_seq ?_
    refine za0 ?_
    refine o_q rfl rfl (q_lss rfl rfl) ?_
    refine o_end ?_
    refine za1 ?_
    refine c_seq ?_
    refine c_false (congrArg Value.bool hr17.ge) ?_
    refine c_exit ?_
    refine zac ?_
    refine zac ?_
    have e_ := Option.some.inj h; replace h := hR19; rw [← e_] at h; clear e_
    refine x_hit ?_
    refine za1 ?_
    refine c_seq ?_
    refine za0 ?_
    refine o_q rfl rfl (za2 rfl) ?_
    refine o_q rfl rfl (q_asg rfl) ?_
    refine o_end ?_
    refine za1 ?_
    refine c_ret ?_
    have e0_ := Option.some.inj h; clear h
    subst e0_
    exact x_r1 (A10, c11, H12) Try.results102 (zal rfl) rfl (fun w h => za6 [0] (by decide) rfl w h)
  · skip
    clear hl20
    have hr17 := hJ_.1; have hk23 := hJ_.2.1; have h := hJ_.2.2; clear hJ_
    replace h : impl_Plan_outputExponents.l0 l2 (y14 :: ys15) l9 i13 = some o21 := h
    rw [impl_Plan_outputExponents.l0] at h
    refine c_seq ?_
    refine za0 ?_
    refine o_q rfl rfl (q_lss rfl rfl) ?_
    refine o_end ?_
    refine za1 ?_
    refine c_seq ?_
    refine c_true (congrArg Value.bool hr17.lt) ?_
    refine zat ?_
    refine za1 ?_
    refine c_seq ?_
    refine zaq ?_
    refine c_seq ?_
    refine za0 ?_
    refine zb4 (p := Sh A0_2 l0_2.length l0_2.length) (fun w h => f_sh (dk := (Kd.int .i64)) h (fun w h => R0_2.now Z h)) (fun hq24 => ?_)
    refine o_q rfl rfl (q_ix Try.underlying23 Z3 rfl rfl hq24 hr17.get) ?_
    refine o_q rfl rfl (q_lde (off := 0) Y3 rfl rfl (fun w h => R0_2.now Z h) hr17.get (fun _ _ h => h) rfl) ?_
    refine o_q rfl rfl (q_asg rfl) ?_
    refine o_end ?_
    refine za1 ?_
    refine za0 ?_
    refine o_q rfl rfl (za2 rfl) ?_
    refine o_q rfl rfl (za2 rfl) ?_
    refine o_q rfl rfl (za2 rfl) ?_
    refine zb4 (p := Sh A3 l2.length (zp H5 l2).length) (fun w h => f_sh (dk := (gk 3 (Kd.int .i64))) h (fun w h => h.zaw (i := 1) rfl)) (fun hq25 => ?_)
    refine zab h (fun y27 hg26 h => ?_) rfl
    refine o_q rfl rfl (q_ix Try.underlying47 Z23 rfl rfl hq25 (gt_zp hg26)) ?_
    refine zb4 (p := y27.length ≤ hC H5 y14) (fun w h => (K_in (h.zaw (i := 1) rfl) hg26).1) (fun hc28 => ?_)
    refine o_q rfl rfl (q_lde (off := 0) Y23 rfl rfl (fun w h => h.zaw (i := 1) rfl) (gt_zp hg26) (fun _ _ h => h.1) rfl) ?_
    refine zab h (fun l30 hx29 h => ?_) rfl
    refine o_e rfl (za8 0 Z Try.func95 N95 rfl rfl rfl (fun w P1 hF hB hS hT => slices_Clone_int_int.calls (hA H5 y14) (hC H5 y14) y27.length y27 hB hF (stab_in (hT 1 _ rfl).row hg26) hc28 _ hx29)) (cur2 (fun A31 c32 => ?_))
    refine o_e rfl (e_litG (j := 0) (ue := 3) (dk := (Kd.int .i64)) (ys := l30) Try.underlying47 I23 rfl rfl rfl) (cur3 (fun A33 c34 H36 => ?_))
    refine zab h (fun l37 ha38 h => ?_) rfl
    refine o_e rfl (e_appG (i := 2) (j := 0) Try.underlying47 I23 rfl (by decide) rfl rfl rfl rfl rfl ha38) (cur3 (fun A39 c40 H41 => ?_))
    refine o_q rfl rfl (q_asg rfl) ?_
    refine o_end ?_
    refine zas ?_
    refine za1 ?_
    refine za0 ?_
    refine o_q rfl rfl (q_up rfl rfl (hr17.up hm18)) ?_
    refine o_q rfl rfl (za2 rfl) ?_
    refine o_end ?_
    refine zar ys15.length (ys15, l37, i13 + 1, A39, c40, H41) (by rw [← hk23]; exact Nat.lt_succ_self _) ⟨hr17.step, rfl, h⟩ ⟨rfl, rfl, trivial⟩ (fun w h => za6 [2, 3] (by decide) rfl w h) ?_
    repeat (first | exact za9 _ _ | refine zae rfl ?_ | refine zaa rfl ?_ | refine zaf rfl ?_)

/-! ### loop.example/g01098/impl.OutputExponents: function 45 -/
def impl_OutputExponents.f (k : Nat) (a0_0 : Int) (l0_1 : List SStep) (l0_2 : List Int) : Option ((List (List Int)) × Bool) := (impl_IsPlan.f k a0_0 l0_1 l0_2).bind fun b4 => if b4 = true then ((impl_Plan_outputExponents.f a0_0 l0_1 l0_2).bind fun l7 => some (l7, true)) else (some (([] : List (List Int)), false))
set_option maxHeartbeats 600000 in
set_option maxRecDepth 100000 in
theorem impl_OutputExponents.calls (k : Nat) {w0 ws : World} {P0 : Nat → Prop} (a0_0 : Int) (A0_1 : Option Addr) (c0_1 : Nat) (n0_1 : Nat) (l0_1 : List SStep) (A0_2 : Option Addr) (c0_2 : Nat) (n0_2 : Nat) (l0_2 : List Int) (Z : Below w0.heap.size w0 ws) (hF : Fr w0 ws P0 [] ws) (R0_1 : Stable ws P0 (fun w => Kd.C kStep w A0_1 n0_1 l0_1)) (hc0_1 : n0_1 ≤ c0_1) (R0_2 : Stable ws P0 (fun w => Kd.C (Kd.int .i64) w A0_2 n0_2 l0_2)) (hc0_2 : n0_2 ≤ c0_2) (r_1 : List (List Int)) (r_5 : Bool) (h : impl_OutputExponents.f k a0_0 l0_1 l0_2 = some (r_1, r_5)) :
    Calls Try.prog 45 #[.agg #[.int .i64 a0_0, .slice A0_1 n0_1 c0_1, .slice A0_2 n0_2 c0_2]] ws (Post1 w0 ws P0 (fun ((q_2, q_3, q_4) : (Option Addr) × Nat × Hd) => .tuple #[.slice q_2 r_1.length q_3, .bool r_5]) (fun ((q_2, q_3, q_4) : (Option Addr) × Nat × Hd) => [row (gk 3 (Kd.int .i64)) 23 (.slice q_2 r_1.length q_3) (zp q_4 r_1)])) := by
  unfold impl_OutputExponents.f at h
  obtain rfl := (R0_1 ws (KeptB.refl _ _)).1
  obtain rfl := (R0_2 ws (KeptB.refl _ _)).1
  refine enter Try.func45 rfl Try.ntmps45 rfl hF ?_
  refine c_seq ?_
  refine za0 ?_
  refine o_e rfl (e_box rfl) (fun g1 => ?_)
  refine o_q rfl rfl (q_asg rfl) ?_
  refine o_q rfl rfl (q_asg rfl) ?_
  refine o_end ?_
  refine za1 ?_
  refine c_seq ?_
  refine c_seq ?_
  refine za0 ?_
  refine o_q rfl rfl (q_ldB G25 Z25 rfl (fun w h => h.zaj (i := 0) rfl) rfl) ?_
  refine zab h (fun b4 hx3 h => ?_) rfl
  refine o_e rfl (za8 0 Z Try.func90 N90 rfl rfl rfl (fun w P1 hF hB hS hT => impl_IsPlan.calls k a0_0 A0_1 c0_1 l0_1.length l0_1 A0_2 c0_2 l0_2.length l0_2 hB hF (hS _ R0_1) hc0_1 (hS _ R0_2) hc0_2 _ hx3)) (fun _ => ?_)
  refine o_q rfl rfl (q_not rfl) ?_
  refine o_end ?_
  refine za1 ?_
  refine zb0 _ rfl (fun hb5 => ?_) (fun hb5 => ?_)
  · replace hb5 := nt_t hb5
    replace h := bb_f hb5 h
    refine c_seq ?_
    refine za0 ?_
    refine o_q rfl rfl (q_asg rfl) ?_
    refine o_q rfl rfl (q_asg rfl) ?_
    refine o_end ?_
    refine za1 ?_
    refine c_ret ?_
    refine zai ?_
    refine x_nil (gk 3 (Kd.int .i64)) 23 ?_
    have e0_ := Option.some.inj h; clear h
    have d0_ := (Prod.mk.inj e0_).1; have e1_ := (Prod.mk.inj e0_).2; clear e0_; subst d0_
    subst e1_
    exact x_r2 (none, 0, ([] : Hd)) Try.results45 (zal rfl) (zal rfl) rfl (fun w h => za6 [0] (by decide) rfl w h)
  · replace hb5 := nt_f hb5
    replace h := bb_t hb5 h
    refine zat ?_
    refine za1 ?_
    refine c_seq ?_
    refine za0 ?_
    refine zab h (fun l7 hx6 h => ?_) rfl
    refine o_e rfl (za8 0 Z Try.func102 N102 rfl rfl rfl (fun w P1 hF hB hS hT => impl_Plan_outputExponents.calls g1 a0_0 A0_1 c0_1 l0_1.length l0_1 A0_2 c0_2 l0_2.length l0_2 hB hF (hS _ R0_1) hc0_1 (hS _ R0_2) hc0_2 (hT 0 _ rfl).box _ hx6)) (cur3 (fun A8 c9 H10 => ?_))
    refine o_q rfl rfl (q_asg rfl) ?_
    refine o_q rfl rfl (q_asg rfl) ?_
    refine o_end ?_
    refine za1 ?_
    refine c_ret ?_
    have e0_ := Option.some.inj h; clear h
    have d0_ := (Prod.mk.inj e0_).1; have e1_ := (Prod.mk.inj e0_).2; clear e0_; subst d0_
    subst e1_
    exact x_r2 (A8, c9, H10) Try.results45 (zal rfl) (zal rfl) rfl (fun w h => za6 [0] (by decide) rfl w h)

/-! ### loop.example/g01098/laws.pEnds: function 25 -/
def laws_pEnds.f (k : Nat) (a0_0 : Int) (l0_1 : List SStep) (l0_2 : List Int) (a1 : Int) : Option Bool := (impl_OutputExponents.f k a0_0 l0_1 l0_2).bind fun (l4, b5) => if b5 = true then (if (l4.length : Int) = 1 then ((gt l4 0).bind fun y13 => if (y13.length : Int) = 1 then ((gt l4 0).bind fun y17 => (gt y17 0).bind fun y21 => some (decide (y21 = a1))) else (some false)) else (some false)) else (some false)
set_option maxHeartbeats 600000 in
set_option maxRecDepth 100000 in
theorem laws_pEnds.calls (k : Nat) {w0 ws : World} {P0 : Nat → Prop} (a0_0 : Int) (A0_1 : Option Addr) (c0_1 : Nat) (n0_1 : Nat) (l0_1 : List SStep) (A0_2 : Option Addr) (c0_2 : Nat) (n0_2 : Nat) (l0_2 : List Int) (a1 : Int) (Z : Below w0.heap.size w0 ws) (hF : Fr w0 ws P0 [] ws) (R0_1 : Stable ws P0 (fun w => Kd.C kStep w A0_1 n0_1 l0_1)) (hc0_1 : n0_1 ≤ c0_1) (R0_2 : Stable ws P0 (fun w => Kd.C (Kd.int .i64) w A0_2 n0_2 l0_2)) (hc0_2 : n0_2 ≤ c0_2) (r_1 : Bool) (h : laws_pEnds.f k a0_0 l0_1 l0_2 a1 = some r_1) :
    Calls Try.prog 25 #[.agg #[.int .i64 a0_0, .slice A0_1 n0_1 c0_1, .slice A0_2 n0_2 c0_2], .int .i64 a1] ws (Post1 w0 ws P0 (fun (_ : Unit) => .bool r_1) (fun (_ : Unit) => [])) := by
  unfold laws_pEnds.f at h
  obtain rfl := (R0_1 ws (KeptB.refl _ _)).1
  obtain rfl := (R0_2 ws (KeptB.refl _ _)).1
  refine enter Try.func25 rfl Try.ntmps25 rfl hF ?_
  refine c_seq ?_
  refine za0 ?_
  refine o_e rfl (e_box rfl) (fun g1 => ?_)
  refine o_q rfl rfl (q_asg rfl) ?_
  refine o_end ?_
  refine za1 ?_
  refine c_seq ?_
  refine za0 ?_
  refine o_q rfl rfl (q_ldB G25 Z25 rfl (fun w h => h.zaj (i := 0) rfl) rfl) ?_
  refine bindE2 h (fun l4 b5 hx3 h => ?_) rfl
  refine o_e rfl (za8 0 Z Try.func45 N45 rfl rfl rfl (fun w P1 hF hB hS hT => impl_OutputExponents.calls k a0_0 A0_1 c0_1 l0_1.length l0_1 A0_2 c0_2 l0_2.length l0_2 hB hF (hS _ R0_1) hc0_1 (hS _ R0_2) hc0_2 _ _ hx3)) (cur3 (fun A6 c7 H8 => ?_))
  refine o_q rfl rfl (za2 rfl) ?_
  refine o_q rfl rfl (q_ext rfl rfl) ?_
  refine o_q rfl rfl (q_ext rfl rfl) ?_
  refine o_q rfl rfl (q_asg rfl) ?_
  refine o_q rfl rfl (q_asg rfl) ?_
  refine o_end ?_
  refine za1 ?_
  refine c_seq ?_
  refine za0 ?_
  refine o_q rfl rfl (za2 rfl) ?_
  refine o_q rfl rfl (za2 rfl) ?_
  refine byB b5 (fun hb9 => ?_) (fun hb9 => ?_)
  · replace h := bb_t hb9 h
    refine o_w (za5 rfl rfl rfl (congrArg Value.bool hb9)) rfl (za2 rfl) ?_
    refine o_w (za5 rfl rfl rfl (congrArg Value.bool hb9)) rfl (q_len Try.underlying47 rfl) ?_
    refine o_w (za5 rfl rfl rfl (congrArg Value.bool hb9)) rfl (q_eql rfl rfl) ?_
    refine o_q rfl rfl (zau true (congrArg Value.bool hb9) rfl) ?_
    refine o_q rfl rfl (za2 rfl) ?_
    refine byB (decide ((l4.length : Int) = 1)) (fun hb10 => ?_) (fun hb10 => ?_)
    · replace h := br_t hb10 h
      refine o_w (za5 rfl rfl rfl (congrArg Value.bool hb10)) rfl (za2 rfl) ?_
      refine zb4 (p := Sh A6 l4.length (zp H8 l4).length) (fun w h => f_sh (dk := (gk 3 (Kd.int .i64))) h (fun w h => h.zaw (i := 0) rfl)) (fun hq11 => ?_)
      refine zab h (fun y13 hg12 h => ?_) rfl
      refine o_w (za5 rfl rfl rfl (congrArg Value.bool hb10)) rfl (q_ix Try.underlying47 Z23 rfl rfl hq11 (gt_zp hg12)) ?_
      refine zb4 (p := y13.length ≤ hC H8 (0 : Int)) (fun w h => (K_in (h.zaw (i := 0) rfl) hg12).1) (fun hc14 => ?_)
      refine o_w (za5 rfl rfl rfl (congrArg Value.bool hb10)) rfl (q_lde (off := 0) Y23 rfl rfl (fun w h => h.zaw (i := 0) rfl) (gt_zp hg12) (fun _ _ h => h.1) rfl) ?_
      refine o_w (za5 rfl rfl rfl (congrArg Value.bool hb10)) rfl (q_len Try.underlying23 rfl) ?_
      refine o_w (za5 rfl rfl rfl (congrArg Value.bool hb10)) rfl (q_eql rfl rfl) ?_
      refine o_q rfl rfl (zau true (congrArg Value.bool hb10) rfl) ?_
      refine o_q rfl rfl (za2 rfl) ?_
      refine byB (decide ((y13.length : Int) = 1)) (fun hb15 => ?_) (fun hb15 => ?_)
      · replace h := br_t hb15 h
        refine o_w (za5 rfl rfl rfl (congrArg Value.bool hb15)) rfl (za2 rfl) ?_
        refine zab h (fun y17 hg16 h => ?_) rfl
        refine o_w (za5 rfl rfl rfl (congrArg Value.bool hb15)) rfl (q_ix Try.underlying47 Z23 rfl rfl hq11 (gt_zp hg16)) ?_
        refine zb4 (p := y17.length ≤ hC H8 (0 : Int)) (fun w h => (K_in (h.zaw (i := 0) rfl) hg16).1) (fun hc18 => ?_)
        refine o_w (za5 rfl rfl rfl (congrArg Value.bool hb15)) rfl (q_lde (off := 0) Y23 rfl rfl (fun w h => h.zaw (i := 0) rfl) (gt_zp hg16) (fun _ _ h => h.1) rfl) ?_
        refine zb4 (p := Sh (hA H8 (0 : Int)) y17.length y17.length) (fun w h => f_sh (dk := (Kd.int .i64)) h (fun w h => C_in (h.zaw (i := 0) rfl) hg16)) (fun hq19 => ?_)
        refine zab h (fun y21 hg20 h => ?_) rfl
        refine o_w (za5 rfl rfl rfl (congrArg Value.bool hb15)) rfl (q_ix Try.underlying23 Z3 rfl rfl hq19 hg20) ?_
        refine o_w (za5 rfl rfl rfl (congrArg Value.bool hb15)) rfl (q_lde (off := 0) Y3 rfl rfl (fun w h => C_in (h.zaw (i := 0) rfl) hg16) hg20 (fun _ _ h => h) rfl) ?_
        refine o_w (za5 rfl rfl rfl (congrArg Value.bool hb15)) rfl (za2 rfl) ?_
        refine o_w (za5 rfl rfl rfl (congrArg Value.bool hb15)) rfl (q_eql rfl rfl) ?_
        refine o_q rfl rfl (zau true (congrArg Value.bool hb15) rfl) ?_
        refine o_q rfl rfl (q_asg rfl) ?_
        refine o_end ?_
        refine za1 ?_
        refine c_ret ?_
        have e0_ := Option.some.inj h; clear h
        subst e0_
        exact x_r1 () Try.results25 (zal rfl) rfl (fun w h => za6 [] (by decide) rfl w h)
      · replace h := br_f hb15 h
        refine @o_n _ _ _ _ _ _ _ _ _ _ _ 26 (za4 rfl rfl rfl (congrArg Value.bool hb15) rfl) (Eq.refl (some 26)) ?_
        refine @o_n _ _ _ _ _ _ _ _ _ _ _ 27 (za4 rfl rfl rfl (congrArg Value.bool hb15) rfl) (Eq.refl (some 27)) ?_
        refine @o_n _ _ _ _ _ _ _ _ _ _ _ 28 (za4 rfl rfl rfl (congrArg Value.bool hb15) rfl) (Eq.refl (some 28)) ?_
        refine @o_n _ _ _ _ _ _ _ _ _ _ _ 29 (za4 rfl rfl rfl (congrArg Value.bool hb15) rfl) (Eq.refl (some 29)) ?_
        refine @o_n _ _ _ _ _ _ _ _ _ _ _ 30 (za4 rfl rfl rfl (congrArg Value.bool hb15) rfl) (Eq.refl (some 30)) ?_
        refine @o_n _ _ _ _ _ _ _ _ _ _ _ 31 (za4 rfl rfl rfl (congrArg Value.bool hb15) rfl) (Eq.refl (some 31)) ?_
        refine @o_n _ _ _ _ _ _ _ _ _ _ _ 32 (za4 rfl rfl rfl (congrArg Value.bool hb15) rfl) (Eq.refl (some 32)) ?_
        refine o_q rfl rfl (zau false (congrArg Value.bool hb15) rfl) ?_
        refine o_q rfl rfl (q_asg rfl) ?_
        refine o_end ?_
        refine za1 ?_
        refine c_ret ?_
        have e0_ := Option.some.inj h; clear h
        subst e0_
        exact x_r1 () Try.results25 (zal rfl) rfl (fun w h => za6 [] (by decide) rfl w h)
    · replace h := br_f hb10 h
      refine @o_n _ _ _ _ _ _ _ _ _ _ _ 19 (za4 rfl rfl rfl (congrArg Value.bool hb10) rfl) (Eq.refl (some 19)) ?_
      refine @o_n _ _ _ _ _ _ _ _ _ _ _ 20 (za4 rfl rfl rfl (congrArg Value.bool hb10) rfl) (Eq.refl (some 20)) ?_
      refine @o_n _ _ _ _ _ _ _ _ _ _ _ 21 (za4 rfl rfl rfl (congrArg Value.bool hb10) rfl) (Eq.refl (some 21)) ?_
      refine @o_n _ _ _ _ _ _ _ _ _ _ _ 22 (za4 rfl rfl rfl (congrArg Value.bool hb10) rfl) (Eq.refl (some 22)) ?_
      refine @o_n _ _ _ _ _ _ _ _ _ _ _ 23 (za4 rfl rfl rfl (congrArg Value.bool hb10) rfl) (Eq.refl (some 23)) ?_
      refine o_q rfl rfl (zau false (congrArg Value.bool hb10) rfl) ?_
      refine o_q rfl rfl (za2 rfl) ?_
      refine @o_n _ _ _ _ _ _ _ _ _ _ _ 26 (za4 rfl rfl rfl rfl rfl) (Eq.refl (some 26)) ?_
      refine @o_n _ _ _ _ _ _ _ _ _ _ _ 27 (za4 rfl rfl rfl rfl rfl) (Eq.refl (some 27)) ?_
      refine @o_n _ _ _ _ _ _ _ _ _ _ _ 28 (za4 rfl rfl rfl rfl rfl) (Eq.refl (some 28)) ?_
      refine @o_n _ _ _ _ _ _ _ _ _ _ _ 29 (za4 rfl rfl rfl rfl rfl) (Eq.refl (some 29)) ?_
      refine @o_n _ _ _ _ _ _ _ _ _ _ _ 30 (za4 rfl rfl rfl rfl rfl) (Eq.refl (some 30)) ?_
      refine @o_n _ _ _ _ _ _ _ _ _ _ _ 31 (za4 rfl rfl rfl rfl rfl) (Eq.refl (some 31)) ?_
      refine @o_n _ _ _ _ _ _ _ _ _ _ _ 32 (za4 rfl rfl rfl rfl rfl) (Eq.refl (some 32)) ?_
      refine o_q rfl rfl (zau false rfl rfl) ?_
      refine o_q rfl rfl (q_asg rfl) ?_
      refine o_end ?_
      refine za1 ?_
      refine c_ret ?_
      have e0_ := Option.some.inj h; clear h
      subst e0_
      exact x_r1 () Try.results25 (zal rfl) rfl (fun w h => za6 [] (by decide) rfl w h)
  · replace h := bb_f hb9 h
    refine @o_n _ _ _ _ _ _ _ _ _ _ _ 14 (za4 rfl rfl rfl (congrArg Value.bool hb9) rfl) (Eq.refl (some 14)) ?_
    refine @o_n _ _ _ _ _ _ _ _ _ _ _ 15 (za4 rfl rfl rfl (congrArg Value.bool hb9) rfl) (Eq.refl (some 15)) ?_
    refine @o_n _ _ _ _ _ _ _ _ _ _ _ 16 (za4 rfl rfl rfl (congrArg Value.bool hb9) rfl) (Eq.refl (some 16)) ?_
    refine o_q rfl rfl (zau false (congrArg Value.bool hb9) rfl) ?_
    refine o_q rfl rfl (za2 rfl) ?_
    refine @o_n _ _ _ _ _ _ _ _ _ _ _ 19 (za4 rfl rfl rfl rfl rfl) (Eq.refl (some 19)) ?_
    refine @o_n _ _ _ _ _ _ _ _ _ _ _ 20 (za4 rfl rfl rfl rfl rfl) (Eq.refl (some 20)) ?_
    refine @o_n _ _ _ _ _ _ _ _ _ _ _ 21 (za4 rfl rfl rfl rfl rfl) (Eq.refl (some 21)) ?_
    refine @o_n _ _ _ _ _ _ _ _ _ _ _ 22 (za4 rfl rfl rfl rfl rfl) (Eq.refl (some 22)) ?_
    refine @o_n _ _ _ _ _ _ _ _ _ _ _ 23 (za4 rfl rfl rfl rfl rfl) (Eq.refl (some 23)) ?_
    refine o_q rfl rfl (zau false rfl rfl) ?_
    refine o_q rfl rfl (za2 rfl) ?_
    refine @o_n _ _ _ _ _ _ _ _ _ _ _ 26 (za4 rfl rfl rfl rfl rfl) (Eq.refl (some 26)) ?_
    refine @o_n _ _ _ _ _ _ _ _ _ _ _ 27 (za4 rfl rfl rfl rfl rfl) (Eq.refl (some 27)) ?_
    refine @o_n _ _ _ _ _ _ _ _ _ _ _ 28 (za4 rfl rfl rfl rfl rfl) (Eq.refl (some 28)) ?_
    refine @o_n _ _ _ _ _ _ _ _ _ _ _ 29 (za4 rfl rfl rfl rfl rfl) (Eq.refl (some 29)) ?_
    refine @o_n _ _ _ _ _ _ _ _ _ _ _ 30 (za4 rfl rfl rfl rfl rfl) (Eq.refl (some 30)) ?_
    refine @o_n _ _ _ _ _ _ _ _ _ _ _ 31 (za4 rfl rfl rfl rfl rfl) (Eq.refl (some 31)) ?_
    refine @o_n _ _ _ _ _ _ _ _ _ _ _ 32 (za4 rfl rfl rfl rfl rfl) (Eq.refl (some 32)) ?_
    refine o_q rfl rfl (zau false rfl rfl) ?_
    refine o_q rfl rfl (q_asg rfl) ?_
    refine o_end ?_
    refine za1 ?_
    refine c_ret ?_
    have e0_ := Option.some.inj h; clear h
    subst e0_
    exact x_r1 () Try.results25 (zal rfl) rfl (fun w h => za6 [] (by decide) rfl w h)

/-! ### loop.example/g01098/spec.WindowsOf: function 27 -/
def spec_WindowsOf.l0 : (List Int) → (List Int) → Int → Option (List Int)
  | [], l15, i18 => some l15
  | y19 :: ys20, l15, i18 => if 0 < y19 then ((ap l15 ([y19] : List Int)).bind fun l34 => spec_WindowsOf.l0 ys20 l34 (i18 + 1)) else (spec_WindowsOf.l0 ys20 l15 (i18 + 1))
def spec_WindowsOf.f (k : Nat) (a0 : Int) (a1 : Int) : Option ((List Int) × Bool) := (spec_chNumber.f a0).bind fun b2 => if b2 = true then ((spec_meWide.f a1).bind fun b5 => if b5 = true then ((spec_meSpans.f k a0 a1).bind fun (l8, l9) => (spec_WindowsOf.l0 l8 ([] : List Int) 0).bind fun l15 => some (l15, true)) else (some (([] : List Int), false))) else (some (([] : List Int), false))
set_option maxHeartbeats 600000 in
set_option maxRecDepth 100000 in
theorem spec_WindowsOf.calls (k : Nat) {w0 ws : World} {P0 : Nat → Prop} (a0 : Int) (a1 : Int) (Z : Below w0.heap.size w0 ws) (hF : Fr w0 ws P0 [] ws)  (r_1 : List Int) (r_4 : Bool) (h : spec_WindowsOf.f k a0 a1 = some (r_1, r_4)) :
    Calls Try.prog 27 #[.int .i64 a0, .int .i64 a1] ws (Post1 w0 ws P0 (fun ((q_2, q_3) : (Option Addr) × Nat) => .tuple #[.slice q_2 r_1.length q_3, .bool r_4]) (fun ((q_2, q_3) : (Option Addr) × Nat) => [row (Kd.int .i64) 3 (.slice q_2 r_1.length q_3) r_1])) := by
  unfold spec_WindowsOf.f at h
  refine enter Try.func27 rfl Try.ntmps27 rfl hF ?_
  refine c_seq ?_
  refine za0 ?_
  refine o_q rfl rfl (q_asg rfl) ?_
  refine o_q rfl rfl (q_asg rfl) ?_
  refine o_end ?_
  refine za1 ?_
  refine c_seq ?_
  refine c_seq ?_
  refine za0 ?_
  refine o_q rfl rfl (za2 rfl) ?_
  refine zab h (fun b2 hx1 h => ?_) rfl
  refine o_e rfl (za8 0 Z Try.func49 N49 rfl rfl rfl (fun w P1 hF hB hS hT => spec_chNumber.calls a0 hB hF _ hx1)) (fun _ => ?_)
  refine o_q rfl rfl (q_not rfl) ?_
  refine o_q rfl rfl (za2 rfl) ?_
  refine byB b2 (fun hb3 => ?_) (fun hb3 => ?_)
  · replace h := bb_t hb3 h
    refine o_w (za5 rfl rfl rfl (congrArg (fun b => Value.bool (!(b))) hb3)) rfl (za2 rfl) ?_
    refine zab h (fun b5 hx4 h => ?_) rfl
    refine o_ew (za5 rfl rfl rfl (congrArg (fun b => Value.bool (!(b))) hb3)) (za8 0 Z Try.func50 N50 rfl rfl rfl (fun w P1 hF hB hS hT => spec_meWide.calls a1 hB hF _ hx4)) (fun _ => ?_)
    refine o_w (za5 rfl rfl rfl (congrArg (fun b => Value.bool (!(b))) hb3)) rfl (q_not rfl) ?_
    refine o_q rfl rfl (zau false (congrArg (fun b => Value.bool (!(b))) hb3) rfl) ?_
    refine o_end ?_
    refine za1 ?_
    refine zb0 _ rfl (fun hb6 => ?_) (fun hb6 => ?_)
    · replace hb6 := nt_t hb6
      replace h := bb_f hb6 h
      refine c_seq ?_
      refine za0 ?_
      refine o_q rfl rfl (q_asg rfl) ?_
      refine o_q rfl rfl (q_asg rfl) ?_
      refine o_end ?_
      refine za1 ?_
      refine c_ret ?_
      refine zai ?_
      refine x_nil (Kd.int .i64) 3 ?_
      have e0_ := Option.some.inj h; clear h
      have d0_ := (Prod.mk.inj e0_).1; have e1_ := (Prod.mk.inj e0_).2; clear e0_; subst d0_
      subst e1_
      exact x_r2 (none, 0) Try.results27 (zal rfl) (zal rfl) rfl (fun w h => za6 [0] (by decide) rfl w h)
    · replace hb6 := nt_f hb6
      replace h := bb_t hb6 h
      refine zat ?_
      refine za1 ?_
      refine c_seq ?_
      refine za0 ?_
      refine o_q rfl rfl (za2 rfl) ?_
      refine o_q rfl rfl (za2 rfl) ?_
      refine bindE2 h (fun l8 l9 hx7 h => ?_) rfl
      refine o_e rfl (za8 0 Z Try.func73 N73 rfl rfl rfl (fun w P1 hF hB hS hT => spec_meSpans.calls k a0 a1 hB hF _ _ hx7)) (cur4 (fun A10 c11 A12 c13 => ?_))
      refine o_q rfl rfl (za2 rfl) ?_
      refine o_q rfl rfl (q_ext rfl rfl) ?_
      refine o_q rfl rfl (q_ext rfl rfl) ?_
      refine o_q rfl rfl (q_asg rfl) ?_
      refine o_q rfl rfl (q_asg rfl) ?_
      refine o_end ?_
      refine za1 ?_
      refine c_seq ?_
      refine za0 ?_
      refine o_q rfl rfl (q_asg rfl) ?_
      refine o_end ?_
      refine za1 ?_
      refine c_seq ?_
      refine c_seq ?_
      refine za0 ?_
      refine o_q rfl rfl (za2 rfl) ?_
      refine o_q rfl rfl (q_len Try.underlying23 rfl) ?_
      refine o_q rfl rfl (za2 rfl) ?_
      refine o_end ?_
      refine za1 ?_
      refine zaq ?_
      refine c_nil (Kd.int .i64) 3 ?_
      refine zab h (fun o26 hl25 hR24 => ?_) rfl
      clear h
      refine c_fact (p := l8.length ≤ 9223372036854775807) (fun w h => (h.zaw (i := 1) rfl).2.1) (fun hm23 => ?_)
      refine zb3 (σ := (List Int) × (List Int) × Int × (Option Addr) × Nat) (fun k21 ((ys20, l15, i18, A16, c17) : (List Int) × (List Int) × Int × (Option Addr) × Nat) => Rg l8 i18 ys20 ∧ ys20.length = k21 ∧ spec_WindowsOf.l0 ys20 l15 i18 = some o26) [8, 10, 27, 28, 29, 30, 31, 32, 33, 34, 35, 36, 37] (fun ((ys20, l15, i18, A16, c17) : (List Int) × (List Int) × Int × (Option Addr) × Nat) => [(8, .slice A16 l15.length c17), (27, .int .i64 i18)]) (fun ((ys20, l15, i18, A16, c17) : (List Int) × (List Int) × Int × (Option Addr) × Nat) => [row (Kd.int .i64) 3 (.slice A16 l15.length c17) l15, row (Kd.int .i64) 3 (.slice A10 l8.length c11) l8, row (Kd.int .i64) 3 (.slice A12 l9.length c13) l9]) l8.length (l8, ([] : List Int), 0, none, 0) ⟨Rg.start _, rfl, hl25⟩ ⟨rfl, rfl, trivial⟩ (fun w h => h) ?_
      refine fun k21 => cur5 (listC (fun l15 i18 A16 c17 U27 hJ_ => ?_) (fun y19 ys20 l15 i18 A16 c17 U27 hJ_ => ?_))
      · skip
        clear hl25
        have hr22 := hJ_.1; have hk28 := hJ_.2.1; have h := hJ_.2.2; clear hJ_
        replace h : spec_WindowsOf.l0 [] l15 i18 = some o26 := h
        rw [spec_WindowsOf.l0] at h
        refine c_seq ?_
        refine za0 ?_
        refine o_q rfl rfl (q_lss rfl rfl) ?_
        refine o_end ?_
        refine za1 ?_
        refine c_seq ?_
        refine c_false (congrArg Value.bool hr22.ge) ?_
        refine c_exit ?_
        refine zac ?_
        refine zac ?_
        have e_ := Option.some.inj h; replace h := hR24; rw [← e_] at h; clear e_
        refine x_hit ?_
        refine za1 ?_
        refine c_seq ?_
        refine za0 ?_
        refine o_q rfl rfl (za2 rfl) ?_
        refine o_q rfl rfl (q_asg rfl) ?_
        refine o_q rfl rfl (q_asg rfl) ?_
        refine o_end ?_
        refine za1 ?_
        refine c_ret ?_
        have e0_ := Option.some.inj h; clear h
        have d0_ := (Prod.mk.inj e0_).1; have e1_ := (Prod.mk.inj e0_).2; clear e0_; subst d0_
        subst e1_
        exact x_r2 (A16, c17) Try.results27 (zal rfl) (zal rfl) rfl (fun w h => za6 [0] (by decide) rfl w h)
      · skip
        clear hl25
        have hr22 := hJ_.1; have hk28 := hJ_.2.1; have h := hJ_.2.2; clear hJ_
        replace h : spec_WindowsOf.l0 (y19 :: ys20) l15 i18 = some o26 := h
        rw [spec_WindowsOf.l0] at h
        refine c_seq ?_
        refine za0 ?_
        refine o_q rfl rfl (q_lss rfl rfl) ?_
        refine o_end ?_
        refine za1 ?_
        refine c_seq ?_
        refine c_true (congrArg Value.bool hr22.lt) ?_
        refine zat ?_
        refine za1 ?_
        refine c_seq ?_
        refine zaq ?_
        refine c_seq ?_
        refine za0 ?_
        refine zb4 (p := Sh A10 l8.length l8.length) (fun w h => f_sh (dk := (Kd.int .i64)) h (fun w h => h.zaw (i := 1) rfl)) (fun hq29 => ?_)
        refine o_q rfl rfl (q_ix Try.underlying23 Z3 rfl rfl hq29 hr22.get) ?_
        refine o_q rfl rfl (q_lde (off := 0) Y3 rfl rfl (fun w h => h.zaw (i := 1) rfl) hr22.get (fun _ _ h => h) rfl) ?_
        refine o_q rfl rfl (q_asg rfl) ?_
        refine o_end ?_
        refine za1 ?_
        refine c_seq ?_
        refine za0 ?_
        refine o_q rfl rfl (za2 rfl) ?_
        refine o_q rfl rfl (q_gtr rfl rfl) ?_
        refine o_end ?_
        refine za1 ?_
        refine zb0 _ rfl (fun hb30 => ?_) (fun hb30 => ?_)
        · skip
          replace h := br_t hb30 h
          refine za0 ?_
          refine o_q rfl rfl (za2 rfl) ?_
          refine o_q rfl rfl (za2 rfl) ?_
          refine o_e rfl (e_lit (vs := [(0, .int .i64 y19)]) (cs := [.int .i64 y19]) (Kd.int .i64) ([y19] : List Int) Try.underlying23 I3 (by decide) rfl (by decide) rfl rfl (fun _ _ => Kd.zah _)) (cur2 (fun A31 c32 => ?_))
          refine zab h (fun l34 ha35 h => ?_) rfl
          refine o_e rfl (e_app (i := 1) (j := 0) Try.underlying23 I3 rfl (by decide) (by decide) rfl rfl rfl rfl rfl ha35) (cur2 (fun A36 c37 => ?_))
          refine o_q rfl rfl (q_asg rfl) ?_
          refine o_end ?_
          refine zas ?_
          refine za1 ?_
          refine za0 ?_
          refine o_q rfl rfl (q_up rfl rfl (hr22.up hm23)) ?_
          refine o_q rfl rfl (za2 rfl) ?_
          refine o_end ?_
          refine zar ys20.length (ys20, l34, i18 + 1, A36, c37) (by rw [← hk28]; exact Nat.lt_succ_self _) ⟨hr22.step, rfl, h⟩ ⟨rfl, rfl, trivial⟩ (fun w h => za6 [1, 2, 3] (by decide) rfl w h) ?_
          repeat (first | exact za9 _ _ | refine zae rfl ?_ | refine zaa rfl ?_ | refine zaf rfl ?_)
        · skip
          replace h := br_f hb30 h
          refine zat ?_
          refine zas ?_
          refine za1 ?_
          refine za0 ?_
          refine o_q rfl rfl (q_up rfl rfl (hr22.up hm23)) ?_
          refine o_q rfl rfl (za2 rfl) ?_
          refine o_end ?_
          refine zar ys20.length (ys20, l15, i18 + 1, A16, c17) (by rw [← hk28]; exact Nat.lt_succ_self _) ⟨hr22.step, rfl, h⟩ ⟨rfl, rfl, trivial⟩ (fun w h => za6 [0, 1, 2] (by decide) rfl w h) ?_
          repeat (first | exact za9 _ _ | refine zae rfl ?_ | refine zaa rfl ?_ | refine zaf rfl ?_)
  · replace h := bb_f hb3 h
    refine @o_n _ _ _ _ _ _ _ _ _ _ _ 15 (za4 rfl rfl rfl (congrArg (fun b => Value.bool (!(b))) hb3) rfl) (Eq.refl (some 15)) ?_
    refine @o_n _ _ _ _ _ _ _ _ _ _ _ 16 (za4 rfl rfl rfl (congrArg (fun b => Value.bool (!(b))) hb3) rfl) (Eq.refl (some 16)) ?_
    refine @o_n _ _ _ _ _ _ _ _ _ _ _ 17 (za4 rfl rfl rfl (congrArg (fun b => Value.bool (!(b))) hb3) rfl) (Eq.refl (some 17)) ?_
    refine o_q rfl rfl (zau true (congrArg (fun b => Value.bool (!(b))) hb3) rfl) ?_
    refine o_end ?_
    refine za1 ?_
    refine c_true rfl ?_
    refine c_seq ?_
    refine za0 ?_
    refine o_q rfl rfl (q_asg rfl) ?_
    refine o_q rfl rfl (q_asg rfl) ?_
    refine o_end ?_
    refine za1 ?_
    refine c_ret ?_
    refine zai ?_
    refine x_nil (Kd.int .i64) 3 ?_
    have e0_ := Option.some.inj h; clear h
    have d0_ := (Prod.mk.inj e0_).1; have e1_ := (Prod.mk.inj e0_).2; clear e0_; subst d0_
    subst e1_
    exact x_r2 (none, 0) Try.results27 (zal rfl) (zal rfl) rfl (fun w h => za6 [0] (by decide) rfl w h)

/-! ### math/bits.OnesCount64: function 126 -/
def math_bits_OnesCount64.f (a0 : Int) : Option Unit := some ()
set_option maxHeartbeats 600000 in
set_option maxRecDepth 100000 in
theorem math_bits_OnesCount64.calls {w0 ws : World} {P0 : Nat → Prop} (a0 : Int) (Z : Below w0.heap.size w0 ws) (hF : Fr w0 ws P0 [] ws)   (h : math_bits_OnesCount64.f a0 = some ()) :
    Calls Try.prog 126 #[.int .u64 a0] ws (Post1 w0 ws P0 (fun (_ : Unit) => .int .i64 (Go.bits .and .i64 (w64 (IntKind.u64.wrap (IntKind.u64.wrap (IntKind.u64.wrap (Go.bits .and .u64 (IntKind.u64.wrap ((IntKind.u64.wrap (Go.bits .and .u64 ((IntKind.u64.wrap (Go.bits .and .u64 (a0 / 2 ^ min (1 : Int).toNat IntKind.u64.bits) 6148914691236517205 + (Go.bits .and .u64 a0 6148914691236517205))) / 2 ^ min (2 : Int).toNat IntKind.u64.bits) 3689348814741910323 + (Go.bits .and .u64 (IntKind.u64.wrap (Go.bits .and .u64 (a0 / 2 ^ min (1 : Int).toNat IntKind.u64.bits) 6148914691236517205 + (Go.bits .and .u64 a0 6148914691236517205))) 3689348814741910323))) / 2 ^ min (4 : Int).toNat IntKind.u64.bits + (IntKind.u64.wrap (Go.bits .and .u64 ((IntKind.u64.wrap (Go.bits .and .u64 (a0 / 2 ^ min (1 : Int).toNat IntKind.u64.bits) 6148914691236517205 + (Go.bits .and .u64 a0 6148914691236517205))) / 2 ^ min (2 : Int).toNat IntKind.u64.bits) 3689348814741910323 + (Go.bits .and .u64 (IntKind.u64.wrap (Go.bits .and .u64 (a0 / 2 ^ min (1 : Int).toNat IntKind.u64.bits) 6148914691236517205 + (Go.bits .and .u64 a0 6148914691236517205))) 3689348814741910323))))) 1085102592571150095 + ((Go.bits .and .u64 (IntKind.u64.wrap ((IntKind.u64.wrap (Go.bits .and .u64 ((IntKind.u64.wrap (Go.bits .and .u64 (a0 / 2 ^ min (1 : Int).toNat IntKind.u64.bits) 6148914691236517205 + (Go.bits .and .u64 a0 6148914691236517205))) / 2 ^ min (2 : Int).toNat IntKind.u64.bits) 3689348814741910323 + (Go.bits .and .u64 (IntKind.u64.wrap (Go.bits .and .u64 (a0 / 2 ^ min (1 : Int).toNat IntKind.u64.bits) 6148914691236517205 + (Go.bits .and .u64 a0 6148914691236517205))) 3689348814741910323))) / 2 ^ min (4 : Int).toNat IntKind.u64.bits + (IntKind.u64.wrap (Go.bits .and .u64 ((IntKind.u64.wrap (Go.bits .and .u64 (a0 / 2 ^ min (1 : Int).toNat IntKind.u64.bits) 6148914691236517205 + (Go.bits .and .u64 a0 6148914691236517205))) / 2 ^ min (2 : Int).toNat IntKind.u64.bits) 3689348814741910323 + (Go.bits .and .u64 (IntKind.u64.wrap (Go.bits .and .u64 (a0 / 2 ^ min (1 : Int).toNat IntKind.u64.bits) 6148914691236517205 + (Go.bits .and .u64 a0 6148914691236517205))) 3689348814741910323))))) 1085102592571150095) / 2 ^ min (8 : Int).toNat IntKind.u64.bits)) + ((IntKind.u64.wrap (Go.bits .and .u64 (IntKind.u64.wrap ((IntKind.u64.wrap (Go.bits .and .u64 ((IntKind.u64.wrap (Go.bits .and .u64 (a0 / 2 ^ min (1 : Int).toNat IntKind.u64.bits) 6148914691236517205 + (Go.bits .and .u64 a0 6148914691236517205))) / 2 ^ min (2 : Int).toNat IntKind.u64.bits) 3689348814741910323 + (Go.bits .and .u64 (IntKind.u64.wrap (Go.bits .and .u64 (a0 / 2 ^ min (1 : Int).toNat IntKind.u64.bits) 6148914691236517205 + (Go.bits .and .u64 a0 6148914691236517205))) 3689348814741910323))) / 2 ^ min (4 : Int).toNat IntKind.u64.bits + (IntKind.u64.wrap (Go.bits .and .u64 ((IntKind.u64.wrap (Go.bits .and .u64 (a0 / 2 ^ min (1 : Int).toNat IntKind.u64.bits) 6148914691236517205 + (Go.bits .and .u64 a0 6148914691236517205))) / 2 ^ min (2 : Int).toNat IntKind.u64.bits) 3689348814741910323 + (Go.bits .and .u64 (IntKind.u64.wrap (Go.bits .and .u64 (a0 / 2 ^ min (1 : Int).toNat IntKind.u64.bits) 6148914691236517205 + (Go.bits .and .u64 a0 6148914691236517205))) 3689348814741910323))))) 1085102592571150095 + ((Go.bits .and .u64 (IntKind.u64.wrap ((IntKind.u64.wrap (Go.bits .and .u64 ((IntKind.u64.wrap (Go.bits .and .u64 (a0 / 2 ^ min (1 : Int).toNat IntKind.u64.bits) 6148914691236517205 + (Go.bits .and .u64 a0 6148914691236517205))) / 2 ^ min (2 : Int).toNat IntKind.u64.bits) 3689348814741910323 + (Go.bits .and .u64 (IntKind.u64.wrap (Go.bits .and .u64 (a0 / 2 ^ min (1 : Int).toNat IntKind.u64.bits) 6148914691236517205 + (Go.bits .and .u64 a0 6148914691236517205))) 3689348814741910323))) / 2 ^ min (4 : Int).toNat IntKind.u64.bits + (IntKind.u64.wrap (Go.bits .and .u64 ((IntKind.u64.wrap (Go.bits .and .u64 (a0 / 2 ^ min (1 : Int).toNat IntKind.u64.bits) 6148914691236517205 + (Go.bits .and .u64 a0 6148914691236517205))) / 2 ^ min (2 : Int).toNat IntKind.u64.bits) 3689348814741910323 + (Go.bits .and .u64 (IntKind.u64.wrap (Go.bits .and .u64 (a0 / 2 ^ min (1 : Int).toNat IntKind.u64.bits) 6148914691236517205 + (Go.bits .and .u64 a0 6148914691236517205))) 3689348814741910323))))) 1085102592571150095) / 2 ^ min (8 : Int).toNat IntKind.u64.bits))) / 2 ^ min (16 : Int).toNat IntKind.u64.bits)) + ((IntKind.u64.wrap (IntKind.u64.wrap (Go.bits .and .u64 (IntKind.u64.wrap ((IntKind.u64.wrap (Go.bits .and .u64 ((IntKind.u64.wrap (Go.bits .and .u64 (a0 / 2 ^ min (1 : Int).toNat IntKind.u64.bits) 6148914691236517205 + (Go.bits .and .u64 a0 6148914691236517205))) / 2 ^ min (2 : Int).toNat IntKind.u64.bits) 3689348814741910323 + (Go.bits .and .u64 (IntKind.u64.wrap (Go.bits .and .u64 (a0 / 2 ^ min (1 : Int).toNat IntKind.u64.bits) 6148914691236517205 + (Go.bits .and .u64 a0 6148914691236517205))) 3689348814741910323))) / 2 ^ min (4 : Int).toNat IntKind.u64.bits + (IntKind.u64.wrap (Go.bits .and .u64 ((IntKind.u64.wrap (Go.bits .and .u64 (a0 / 2 ^ min (1 : Int).toNat IntKind.u64.bits) 6148914691236517205 + (Go.bits .and .u64 a0 6148914691236517205))) / 2 ^ min (2 : Int).toNat IntKind.u64.bits) 3689348814741910323 + (Go.bits .and .u64 (IntKind.u64.wrap (Go.bits .and .u64 (a0 / 2 ^ min (1 : Int).toNat IntKind.u64.bits) 6148914691236517205 + (Go.bits .and .u64 a0 6148914691236517205))) 3689348814741910323))))) 1085102592571150095 + ((Go.bits .and .u64 (IntKind.u64.wrap ((IntKind.u64.wrap (Go.bits .and .u64 ((IntKind.u64.wrap (Go.bits .and .u64 (a0 / 2 ^ min (1 : Int).toNat IntKind.u64.bits) 6148914691236517205 + (Go.bits .and .u64 a0 6148914691236517205))) / 2 ^ min (2 : Int).toNat IntKind.u64.bits) 3689348814741910323 + (Go.bits .and .u64 (IntKind.u64.wrap (Go.bits .and .u64 (a0 / 2 ^ min (1 : Int).toNat IntKind.u64.bits) 6148914691236517205 + (Go.bits .and .u64 a0 6148914691236517205))) 3689348814741910323))) / 2 ^ min (4 : Int).toNat IntKind.u64.bits + (IntKind.u64.wrap (Go.bits .and .u64 ((IntKind.u64.wrap (Go.bits .and .u64 (a0 / 2 ^ min (1 : Int).toNat IntKind.u64.bits) 6148914691236517205 + (Go.bits .and .u64 a0 6148914691236517205))) / 2 ^ min (2 : Int).toNat IntKind.u64.bits) 3689348814741910323 + (Go.bits .and .u64 (IntKind.u64.wrap (Go.bits .and .u64 (a0 / 2 ^ min (1 : Int).toNat IntKind.u64.bits) 6148914691236517205 + (Go.bits .and .u64 a0 6148914691236517205))) 3689348814741910323))))) 1085102592571150095) / 2 ^ min (8 : Int).toNat IntKind.u64.bits)) + ((IntKind.u64.wrap (Go.bits .and .u64 (IntKind.u64.wrap ((IntKind.u64.wrap (Go.bits .and .u64 ((IntKind.u64.wrap (Go.bits .and .u64 (a0 / 2 ^ min (1 : Int).toNat IntKind.u64.bits) 6148914691236517205 + (Go.bits .and .u64 a0 6148914691236517205))) / 2 ^ min (2 : Int).toNat IntKind.u64.bits) 3689348814741910323 + (Go.bits .and .u64 (IntKind.u64.wrap (Go.bits .and .u64 (a0 / 2 ^ min (1 : Int).toNat IntKind.u64.bits) 6148914691236517205 + (Go.bits .and .u64 a0 6148914691236517205))) 3689348814741910323))) / 2 ^ min (4 : Int).toNat IntKind.u64.bits + (IntKind.u64.wrap (Go.bits .and .u64 ((IntKind.u64.wrap (Go.bits .and .u64 (a0 / 2 ^ min (1 : Int).toNat IntKind.u64.bits) 6148914691236517205 + (Go.bits .and .u64 a0 6148914691236517205))) / 2 ^ min (2 : Int).toNat IntKind.u64.bits) 3689348814741910323 + (Go.bits .and .u64 (IntKind.u64.wrap (Go.bits .and .u64 (a0 / 2 ^ min (1 : Int).toNat IntKind.u64.bits) 6148914691236517205 + (Go.bits .and .u64 a0 6148914691236517205))) 3689348814741910323))))) 1085102592571150095 + ((Go.bits .and .u64 (IntKind.u64.wrap ((IntKind.u64.wrap (Go.bits .and .u64 ((IntKind.u64.wrap (Go.bits .and .u64 (a0 / 2 ^ min (1 : Int).toNat IntKind.u64.bits) 6148914691236517205 + (Go.bits .and .u64 a0 6148914691236517205))) / 2 ^ min (2 : Int).toNat IntKind.u64.bits) 3689348814741910323 + (Go.bits .and .u64 (IntKind.u64.wrap (Go.bits .and .u64 (a0 / 2 ^ min (1 : Int).toNat IntKind.u64.bits) 6148914691236517205 + (Go.bits .and .u64 a0 6148914691236517205))) 3689348814741910323))) / 2 ^ min (4 : Int).toNat IntKind.u64.bits + (IntKind.u64.wrap (Go.bits .and .u64 ((IntKind.u64.wrap (Go.bits .and .u64 (a0 / 2 ^ min (1 : Int).toNat IntKind.u64.bits) 6148914691236517205 + (Go.bits .and .u64 a0 6148914691236517205))) / 2 ^ min (2 : Int).toNat IntKind.u64.bits) 3689348814741910323 + (Go.bits .and .u64 (IntKind.u64.wrap (Go.bits .and .u64 (a0 / 2 ^ min (1 : Int).toNat IntKind.u64.bits) 6148914691236517205 + (Go.bits .and .u64 a0 6148914691236517205))) 3689348814741910323))))) 1085102592571150095) / 2 ^ min (8 : Int).toNat IntKind.u64.bits))) / 2 ^ min (16 : Int).toNat IntKind.u64.bits))) / 2 ^ min (32 : Int).toNat IntKind.u64.bits)))) 127)) (fun (_ : Unit) => [])) := by
  unfold math_bits_OnesCount64.f at h
  refine enter Try.func126 rfl Try.ntmps126 rfl hF ?_
  refine c_seq ?_
  refine za0 ?_
  refine o_q rfl rfl (q_asg rfl) ?_
  refine o_end ?_
  refine za1 ?_
  refine c_seq ?_
  refine za0 ?_
  refine o_q rfl rfl (za2 rfl) ?_
  refine o_q rfl rfl (q_shr rfl rfl (by decide)) ?_
  refine o_q rfl rfl (q_and rfl rfl) ?_
  refine o_q rfl rfl (za2 rfl) ?_
  refine o_q rfl rfl (q_and rfl rfl) ?_
  refine o_q rfl rfl (q_add rfl rfl) ?_
  refine o_q rfl rfl (q_asg rfl) ?_
  refine o_end ?_
  refine za1 ?_
  refine c_seq ?_
  refine za0 ?_
  refine o_q rfl rfl (za2 rfl) ?_
  refine o_q rfl rfl (q_shr rfl rfl (by decide)) ?_
  refine o_q rfl rfl (q_and rfl rfl) ?_
  refine o_q rfl rfl (za2 rfl) ?_
  refine o_q rfl rfl (q_and rfl rfl) ?_
  refine o_q rfl rfl (q_add rfl rfl) ?_
  refine o_q rfl rfl (q_asg rfl) ?_
  refine o_end ?_
  refine za1 ?_
  refine c_seq ?_
  refine za0 ?_
  refine o_q rfl rfl (za2 rfl) ?_
  refine o_q rfl rfl (q_shr rfl rfl (by decide)) ?_
  refine o_q rfl rfl (za2 rfl) ?_
  refine o_q rfl rfl (q_add rfl rfl) ?_
  refine o_q rfl rfl (q_and rfl rfl) ?_
  refine o_q rfl rfl (q_asg rfl) ?_
  refine o_end ?_
  refine za1 ?_
  refine c_seq ?_
  refine za0 ?_
  refine o_q rfl rfl (za2 rfl) ?_
  refine o_q rfl rfl (za2 rfl) ?_
  refine o_q rfl rfl (q_shr rfl rfl (by decide)) ?_
  refine o_q rfl rfl (q_add rfl rfl) ?_
  refine o_q rfl rfl (q_asg rfl) ?_
  refine o_end ?_
  refine za1 ?_
  refine c_seq ?_
  refine za0 ?_
  refine o_q rfl rfl (za2 rfl) ?_
  refine o_q rfl rfl (za2 rfl) ?_
  refine o_q rfl rfl (q_shr rfl rfl (by decide)) ?_
  refine o_q rfl rfl (q_add rfl rfl) ?_
  refine o_q rfl rfl (q_asg rfl) ?_
  refine o_end ?_
  refine za1 ?_
  refine c_seq ?_
  refine za0 ?_
  refine o_q rfl rfl (za2 rfl) ?_
  refine o_q rfl rfl (za2 rfl) ?_
  refine o_q rfl rfl (q_shr rfl rfl (by decide)) ?_
  refine o_q rfl rfl (q_add rfl rfl) ?_
  refine o_q rfl rfl (q_asg rfl) ?_
  refine o_end ?_
  refine za1 ?_
  refine c_seq ?_
  refine za0 ?_
  refine o_q rfl rfl (za2 rfl) ?_
  refine o_q rfl rfl (q_conv (by rw [Try.underlying82]; rfl) Try.underlying3 rfl) ?_
  refine o_q rfl rfl (q_and rfl rfl) ?_
  refine o_q rfl rfl (q_asg rfl) ?_
  refine o_end ?_
  refine za1 ?_
  refine c_ret ?_
  exact x_r1 () Try.results126 (zal rfl) rfl (fun w h => za6 [] (by decide) rfl w h)

/-! ### math/bits.OnesCount: function 75 -/
def math_bits_OnesCount.f (a0 : Int) : Option Unit := (math_bits_OnesCount64.f a0).bind fun _ => some ()
set_option maxHeartbeats 600000 in
set_option maxRecDepth 100000 in
theorem math_bits_OnesCount.calls {w0 ws : World} {P0 : Nat → Prop} (a0 : Int) (Z : Below w0.heap.size w0 ws) (hF : Fr w0 ws P0 [] ws)   (h : math_bits_OnesCount.f a0 = some ()) :
    Calls Try.prog 75 #[.int .u64 a0] ws (Post1 w0 ws P0 (fun (_ : Unit) => .int .i64 (Go.bits .and .i64 (w64 (IntKind.u64.wrap (IntKind.u64.wrap (IntKind.u64.wrap (Go.bits .and .u64 (IntKind.u64.wrap ((IntKind.u64.wrap (Go.bits .and .u64 ((IntKind.u64.wrap (Go.bits .and .u64 (a0 / 2 ^ min (1 : Int).toNat IntKind.u64.bits) 6148914691236517205 + (Go.bits .and .u64 a0 6148914691236517205))) / 2 ^ min (2 : Int).toNat IntKind.u64.bits) 3689348814741910323 + (Go.bits .and .u64 (IntKind.u64.wrap (Go.bits .and .u64 (a0 / 2 ^ min (1 : Int).toNat IntKind.u64.bits) 6148914691236517205 + (Go.bits .and .u64 a0 6148914691236517205))) 3689348814741910323))) / 2 ^ min (4 : Int).toNat IntKind.u64.bits + (IntKind.u64.wrap (Go.bits .and .u64 ((IntKind.u64.wrap (Go.bits .and .u64 (a0 / 2 ^ min (1 : Int).toNat IntKind.u64.bits) 6148914691236517205 + (Go.bits .and .u64 a0 6148914691236517205))) / 2 ^ min (2 : Int).toNat IntKind.u64.bits) 3689348814741910323 + (Go.bits .and .u64 (IntKind.u64.wrap (Go.bits .and .u64 (a0 / 2 ^ min (1 : Int).toNat IntKind.u64.bits) 6148914691236517205 + (Go.bits .and .u64 a0 6148914691236517205))) 3689348814741910323))))) 1085102592571150095 + ((Go.bits .and .u64 (IntKind.u64.wrap ((IntKind.u64.wrap (Go.bits .and .u64 ((IntKind.u64.wrap (Go.bits .and .u64 (a0 / 2 ^ min (1 : Int).toNat IntKind.u64.bits) 6148914691236517205 + (Go.bits .and .u64 a0 6148914691236517205))) / 2 ^ min (2 : Int).toNat IntKind.u64.bits) 3689348814741910323 + (Go.bits .and .u64 (IntKind.u64.wrap (Go.bits .and .u64 (a0 / 2 ^ min (1 : Int).toNat IntKind.u64.bits) 6148914691236517205 + (Go.bits .and .u64 a0 6148914691236517205))) 3689348814741910323))) / 2 ^ min (4 : Int).toNat IntKind.u64.bits + (IntKind.u64.wrap (Go.bits .and .u64 ((IntKind.u64.wrap (Go.bits .and .u64 (a0 / 2 ^ min (1 : Int).toNat IntKind.u64.bits) 6148914691236517205 + (Go.bits .and .u64 a0 6148914691236517205))) / 2 ^ min (2 : Int).toNat IntKind.u64.bits) 3689348814741910323 + (Go.bits .and .u64 (IntKind.u64.wrap (Go.bits .and .u64 (a0 / 2 ^ min (1 : Int).toNat IntKind.u64.bits) 6148914691236517205 + (Go.bits .and .u64 a0 6148914691236517205))) 3689348814741910323))))) 1085102592571150095) / 2 ^ min (8 : Int).toNat IntKind.u64.bits)) + ((IntKind.u64.wrap (Go.bits .and .u64 (IntKind.u64.wrap ((IntKind.u64.wrap (Go.bits .and .u64 ((IntKind.u64.wrap (Go.bits .and .u64 (a0 / 2 ^ min (1 : Int).toNat IntKind.u64.bits) 6148914691236517205 + (Go.bits .and .u64 a0 6148914691236517205))) / 2 ^ min (2 : Int).toNat IntKind.u64.bits) 3689348814741910323 + (Go.bits .and .u64 (IntKind.u64.wrap (Go.bits .and .u64 (a0 / 2 ^ min (1 : Int).toNat IntKind.u64.bits) 6148914691236517205 + (Go.bits .and .u64 a0 6148914691236517205))) 3689348814741910323))) / 2 ^ min (4 : Int).toNat IntKind.u64.bits + (IntKind.u64.wrap (Go.bits .and .u64 ((IntKind.u64.wrap (Go.bits .and .u64 (a0 / 2 ^ min (1 : Int).toNat IntKind.u64.bits) 6148914691236517205 + (Go.bits .and .u64 a0 6148914691236517205))) / 2 ^ min (2 : Int).toNat IntKind.u64.bits) 3689348814741910323 + (Go.bits .and .u64 (IntKind.u64.wrap (Go.bits .and .u64 (a0 / 2 ^ min (1 : Int).toNat IntKind.u64.bits) 6148914691236517205 + (Go.bits .and .u64 a0 6148914691236517205))) 3689348814741910323))))) 1085102592571150095 + ((Go.bits .and .u64 (IntKind.u64.wrap ((IntKind.u64.wrap (Go.bits .and .u64 ((IntKind.u64.wrap (Go.bits .and .u64 (a0 / 2 ^ min (1 : Int).toNat IntKind.u64.bits) 6148914691236517205 + (Go.bits .and .u64 a0 6148914691236517205))) / 2 ^ min (2 : Int).toNat IntKind.u64.bits) 3689348814741910323 + (Go.bits .and .u64 (IntKind.u64.wrap (Go.bits .and .u64 (a0 / 2 ^ min (1 : Int).toNat IntKind.u64.bits) 6148914691236517205 + (Go.bits .and .u64 a0 6148914691236517205))) 3689348814741910323))) / 2 ^ min (4 : Int).toNat IntKind.u64.bits + (IntKind.u64.wrap (Go.bits .and .u64 ((IntKind.u64.wrap (Go.bits .and .u64 (a0 / 2 ^ min (1 : Int).toNat IntKind.u64.bits) 6148914691236517205 + (Go.bits .and .u64 a0 6148914691236517205))) / 2 ^ min (2 : Int).toNat IntKind.u64.bits) 3689348814741910323 + (Go.bits .and .u64 (IntKind.u64.wrap (Go.bits .and .u64 (a0 / 2 ^ min (1 : Int).toNat IntKind.u64.bits) 6148914691236517205 + (Go.bits .and .u64 a0 6148914691236517205))) 3689348814741910323))))) 1085102592571150095) / 2 ^ min (8 : Int).toNat IntKind.u64.bits))) / 2 ^ min (16 : Int).toNat IntKind.u64.bits)) + ((IntKind.u64.wrap (IntKind.u64.wrap (Go.bits .and .u64 (IntKind.u64.wrap ((IntKind.u64.wrap (Go.bits .and .u64 ((IntKind.u64.wrap (Go.bits .and .u64 (a0 / 2 ^ min (1 : Int).toNat IntKind.u64.bits) 6148914691236517205 + (Go.bits .and .u64 a0 6148914691236517205))) / 2 ^ min (2 : Int).toNat IntKind.u64.bits) 3689348814741910323 + (Go.bits .and .u64 (IntKind.u64.wrap (Go.bits .and .u64 (a0 / 2 ^ min (1 : Int).toNat IntKind.u64.bits) 6148914691236517205 + (Go.bits .and .u64 a0 6148914691236517205))) 3689348814741910323))) / 2 ^ min (4 : Int).toNat IntKind.u64.bits + (IntKind.u64.wrap (Go.bits .and .u64 ((IntKind.u64.wrap (Go.bits .and .u64 (a0 / 2 ^ min (1 : Int).toNat IntKind.u64.bits) 6148914691236517205 + (Go.bits .and .u64 a0 6148914691236517205))) / 2 ^ min (2 : Int).toNat IntKind.u64.bits) 3689348814741910323 + (Go.bits .and .u64 (IntKind.u64.wrap (Go.bits .and .u64 (a0 / 2 ^ min (1 : Int).toNat IntKind.u64.bits) 6148914691236517205 + (Go.bits .and .u64 a0 6148914691236517205))) 3689348814741910323))))) 1085102592571150095 + ((Go.bits .and .u64 (IntKind.u64.wrap ((IntKind.u64.wrap (Go.bits .and .u64 ((IntKind.u64.wrap (Go.bits .and .u64 (a0 / 2 ^ min (1 : Int).toNat IntKind.u64.bits) 6148914691236517205 + (Go.bits .and .u64 a0 6148914691236517205))) / 2 ^ min (2 : Int).toNat IntKind.u64.bits) 3689348814741910323 + (Go.bits .and .u64 (IntKind.u64.wrap (Go.bits .and .u64 (a0 / 2 ^ min (1 : Int).toNat IntKind.u64.bits) 6148914691236517205 + (Go.bits .and .u64 a0 6148914691236517205))) 3689348814741910323))) / 2 ^ min (4 : Int).toNat IntKind.u64.bits + (IntKind.u64.wrap (Go.bits .and .u64 ((IntKind.u64.wrap (Go.bits .and .u64 (a0 / 2 ^ min (1 : Int).toNat IntKind.u64.bits) 6148914691236517205 + (Go.bits .and .u64 a0 6148914691236517205))) / 2 ^ min (2 : Int).toNat IntKind.u64.bits) 3689348814741910323 + (Go.bits .and .u64 (IntKind.u64.wrap (Go.bits .and .u64 (a0 / 2 ^ min (1 : Int).toNat IntKind.u64.bits) 6148914691236517205 + (Go.bits .and .u64 a0 6148914691236517205))) 3689348814741910323))))) 1085102592571150095) / 2 ^ min (8 : Int).toNat IntKind.u64.bits)) + ((IntKind.u64.wrap (Go.bits .and .u64 (IntKind.u64.wrap ((IntKind.u64.wrap (Go.bits .and .u64 ((IntKind.u64.wrap (Go.bits .and .u64 (a0 / 2 ^ min (1 : Int).toNat IntKind.u64.bits) 6148914691236517205 + (Go.bits .and .u64 a0 6148914691236517205))) / 2 ^ min (2 : Int).toNat IntKind.u64.bits) 3689348814741910323 + (Go.bits .and .u64 (IntKind.u64.wrap (Go.bits .and .u64 (a0 / 2 ^ min (1 : Int).toNat IntKind.u64.bits) 6148914691236517205 + (Go.bits .and .u64 a0 6148914691236517205))) 3689348814741910323))) / 2 ^ min (4 : Int).toNat IntKind.u64.bits + (IntKind.u64.wrap (Go.bits .and .u64 ((IntKind.u64.wrap (Go.bits .and .u64 (a0 / 2 ^ min (1 : Int).toNat IntKind.u64.bits) 6148914691236517205 + (Go.bits .and .u64 a0 6148914691236517205))) / 2 ^ min (2 : Int).toNat IntKind.u64.bits) 3689348814741910323 + (Go.bits .and .u64 (IntKind.u64.wrap (Go.bits .and .u64 (a0 / 2 ^ min (1 : Int).toNat IntKind.u64.bits) 6148914691236517205 + (Go.bits .and .u64 a0 6148914691236517205))) 3689348814741910323))))) 1085102592571150095 + ((Go.bits .and .u64 (IntKind.u64.wrap ((IntKind.u64.wrap (Go.bits .and .u64 ((IntKind.u64.wrap (Go.bits .and .u64 (a0 / 2 ^ min (1 : Int).toNat IntKind.u64.bits) 6148914691236517205 + (Go.bits .and .u64 a0 6148914691236517205))) / 2 ^ min (2 : Int).toNat IntKind.u64.bits) 3689348814741910323 + (Go.bits .and .u64 (IntKind.u64.wrap (Go.bits .and .u64 (a0 / 2 ^ min (1 : Int).toNat IntKind.u64.bits) 6148914691236517205 + (Go.bits .and .u64 a0 6148914691236517205))) 3689348814741910323))) / 2 ^ min (4 : Int).toNat IntKind.u64.bits + (IntKind.u64.wrap (Go.bits .and .u64 ((IntKind.u64.wrap (Go.bits .and .u64 (a0 / 2 ^ min (1 : Int).toNat IntKind.u64.bits) 6148914691236517205 + (Go.bits .and .u64 a0 6148914691236517205))) / 2 ^ min (2 : Int).toNat IntKind.u64.bits) 3689348814741910323 + (Go.bits .and .u64 (IntKind.u64.wrap (Go.bits .and .u64 (a0 / 2 ^ min (1 : Int).toNat IntKind.u64.bits) 6148914691236517205 + (Go.bits .and .u64 a0 6148914691236517205))) 3689348814741910323))))) 1085102592571150095) / 2 ^ min (8 : Int).toNat IntKind.u64.bits))) / 2 ^ min (16 : Int).toNat IntKind.u64.bits))) / 2 ^ min (32 : Int).toNat IntKind.u64.bits)))) 127)) (fun (_ : Unit) => [])) := by
  unfold math_bits_OnesCount.f at h
  refine enter Try.func75 rfl Try.ntmps75 rfl hF ?_
  refine c_seq ?_
  refine za0 ?_
  refine o_q rfl rfl (q_asg rfl) ?_
  refine o_end ?_
  refine za1 ?_
  refine c_seq ?_
  refine c_false rfl ?_
  refine zat ?_
  refine za1 ?_
  refine c_seq ?_
  refine za0 ?_
  refine o_q rfl rfl (za2 rfl) ?_
  refine zab h (fun _ hx1 h => ?_) rfl
  refine o_e rfl (za8 0 Z Try.func126 N126 rfl rfl rfl (fun w P1 hF hB hS hT => math_bits_OnesCount64.calls a0 hB hF hx1)) (fun _ => ?_)
  refine o_q rfl rfl (q_asg rfl) ?_
  refine o_end ?_
  refine za1 ?_
  refine c_ret ?_
  exact x_r1 () Try.results75 (zal rfl) rfl (fun w h => za6 [] (by decide) rfl w h)

/-! ### loop.example/g01098/impl.DigitSum: function 29 -/
def impl_DigitSum.f (a0 : Int) : Option (Int × Bool) := (impl_isNumber.f a0).bind fun b2 => if b2 = true then ((math_bits_OnesCount.f (IntKind.u64.wrap a0)).bind fun _ => some (Go.bits .and .i64 (w64 (IntKind.u64.wrap (IntKind.u64.wrap (IntKind.u64.wrap (Go.bits .and .u64 (IntKind.u64.wrap ((IntKind.u64.wrap (Go.bits .and .u64 ((IntKind.u64.wrap (Go.bits .and .u64 ((IntKind.u64.wrap a0) / 2 ^ min (1 : Int).toNat IntKind.u64.bits) 6148914691236517205 + (Go.bits .and .u64 (IntKind.u64.wrap a0) 6148914691236517205))) / 2 ^ min (2 : Int).toNat IntKind.u64.bits) 3689348814741910323 + (Go.bits .and .u64 (IntKind.u64.wrap (Go.bits .and .u64 ((IntKind.u64.wrap a0) / 2 ^ min (1 : Int).toNat IntKind.u64.bits) 6148914691236517205 + (Go.bits .and .u64 (IntKind.u64.wrap a0) 6148914691236517205))) 3689348814741910323))) / 2 ^ min (4 : Int).toNat IntKind.u64.bits + (IntKind.u64.wrap (Go.bits .and .u64 ((IntKind.u64.wrap (Go.bits .and .u64 ((IntKind.u64.wrap a0) / 2 ^ min (1 : Int).toNat IntKind.u64.bits) 6148914691236517205 + (Go.bits .and .u64 (IntKind.u64.wrap a0) 6148914691236517205))) / 2 ^ min (2 : Int).toNat IntKind.u64.bits) 3689348814741910323 + (Go.bits .and .u64 (IntKind.u64.wrap (Go.bits .and .u64 ((IntKind.u64.wrap a0) / 2 ^ min (1 : Int).toNat IntKind.u64.bits) 6148914691236517205 + (Go.bits .and .u64 (IntKind.u64.wrap a0) 6148914691236517205))) 3689348814741910323))))) 1085102592571150095 + ((Go.bits .and .u64 (IntKind.u64.wrap ((IntKind.u64.wrap (Go.bits .and .u64 ((IntKind.u64.wrap (Go.bits .and .u64 ((IntKind.u64.wrap a0) / 2 ^ min (1 : Int).toNat IntKind.u64.bits) 6148914691236517205 + (Go.bits .and .u64 (IntKind.u64.wrap a0) 6148914691236517205))) / 2 ^ min (2 : Int).toNat IntKind.u64.bits) 3689348814741910323 + (Go.bits .and .u64 (IntKind.u64.wrap (Go.bits .and .u64 ((IntKind.u64.wrap a0) / 2 ^ min (1 : Int).toNat IntKind.u64.bits) 6148914691236517205 + (Go.bits .and .u64 (IntKind.u64.wrap a0) 6148914691236517205))) 3689348814741910323))) / 2 ^ min (4 : Int).toNat IntKind.u64.bits + (IntKind.u64.wrap (Go.bits .and .u64 ((IntKind.u64.wrap (Go.bits .and .u64 ((IntKind.u64.wrap a0) / 2 ^ min (1 : Int).toNat IntKind.u64.bits) 6148914691236517205 + (Go.bits .and .u64 (IntKind.u64.wrap a0) 6148914691236517205))) / 2 ^ min (2 : Int).toNat IntKind.u64.bits) 3689348814741910323 + (Go.bits .and .u64 (IntKind.u64.wrap (Go.bits .and .u64 ((IntKind.u64.wrap a0) / 2 ^ min (1 : Int).toNat IntKind.u64.bits) 6148914691236517205 + (Go.bits .and .u64 (IntKind.u64.wrap a0) 6148914691236517205))) 3689348814741910323))))) 1085102592571150095) / 2 ^ min (8 : Int).toNat IntKind.u64.bits)) + ((IntKind.u64.wrap (Go.bits .and .u64 (IntKind.u64.wrap ((IntKind.u64.wrap (Go.bits .and .u64 ((IntKind.u64.wrap (Go.bits .and .u64 ((IntKind.u64.wrap a0) / 2 ^ min (1 : Int).toNat IntKind.u64.bits) 6148914691236517205 + (Go.bits .and .u64 (IntKind.u64.wrap a0) 6148914691236517205))) / 2 ^ min (2 : Int).toNat IntKind.u64.bits) 3689348814741910323 + (Go.bits .and .u64 (IntKind.u64.wrap (Go.bits .and .u64 ((IntKind.u64.wrap a0) / 2 ^ min (1 : Int).toNat IntKind.u64.bits) 6148914691236517205 + (Go.bits .and .u64 (IntKind.u64.wrap a0) 6148914691236517205))) 3689348814741910323))) / 2 ^ min (4 : Int).toNat IntKind.u64.bits + (IntKind.u64.wrap (Go.bits .and .u64 ((IntKind.u64.wrap (Go.bits .and .u64 ((IntKind.u64.wrap a0) / 2 ^ min (1 : Int).toNat IntKind.u64.bits) 6148914691236517205 + (Go.bits .and .u64 (IntKind.u64.wrap a0) 6148914691236517205))) / 2 ^ min (2 : Int).toNat IntKind.u64.bits) 3689348814741910323 + (Go.bits .and .u64 (IntKind.u64.wrap (Go.bits .and .u64 ((IntKind.u64.wrap a0) / 2 ^ min (1 : Int).toNat IntKind.u64.bits) 6148914691236517205 + (Go.bits .and .u64 (IntKind.u64.wrap a0) 6148914691236517205))) 3689348814741910323))))) 1085102592571150095 + ((Go.bits .and .u64 (IntKind.u64.wrap ((IntKind.u64.wrap (Go.bits .and .u64 ((IntKind.u64.wrap (Go.bits .and .u64 ((IntKind.u64.wrap a0) / 2 ^ min (1 : Int).toNat IntKind.u64.bits) 6148914691236517205 + (Go.bits .and .u64 (IntKind.u64.wrap a0) 6148914691236517205))) / 2 ^ min (2 : Int).toNat IntKind.u64.bits) 3689348814741910323 + (Go.bits .and .u64 (IntKind.u64.wrap (Go.bits .and .u64 ((IntKind.u64.wrap a0) / 2 ^ min (1 : Int).toNat IntKind.u64.bits) 6148914691236517205 + (Go.bits .and .u64 (IntKind.u64.wrap a0) 6148914691236517205))) 3689348814741910323))) / 2 ^ min (4 : Int).toNat IntKind.u64.bits + (IntKind.u64.wrap (Go.bits .and .u64 ((IntKind.u64.wrap (Go.bits .and .u64 ((IntKind.u64.wrap a0) / 2 ^ min (1 : Int).toNat IntKind.u64.bits) 6148914691236517205 + (Go.bits .and .u64 (IntKind.u64.wrap a0) 6148914691236517205))) / 2 ^ min (2 : Int).toNat IntKind.u64.bits) 3689348814741910323 + (Go.bits .and .u64 (IntKind.u64.wrap (Go.bits .and .u64 ((IntKind.u64.wrap a0) / 2 ^ min (1 : Int).toNat IntKind.u64.bits) 6148914691236517205 + (Go.bits .and .u64 (IntKind.u64.wrap a0) 6148914691236517205))) 3689348814741910323))))) 1085102592571150095) / 2 ^ min (8 : Int).toNat IntKind.u64.bits))) / 2 ^ min (16 : Int).toNat IntKind.u64.bits)) + ((IntKind.u64.wrap (IntKind.u64.wrap (Go.bits .and .u64 (IntKind.u64.wrap ((IntKind.u64.wrap (Go.bits .and .u64 ((IntKind.u64.wrap (Go.bits .and .u64 ((IntKind.u64.wrap a0) / 2 ^ min (1 : Int).toNat IntKind.u64.bits) 6148914691236517205 + (Go.bits .and .u64 (IntKind.u64.wrap a0) 6148914691236517205))) / 2 ^ min (2 : Int).toNat IntKind.u64.bits) 3689348814741910323 + (Go.bits .and .u64 (IntKind.u64.wrap (Go.bits .and .u64 ((IntKind.u64.wrap a0) / 2 ^ min (1 : Int).toNat IntKind.u64.bits) 6148914691236517205 + (Go.bits .and .u64 (IntKind.u64.wrap a0) 6148914691236517205))) 3689348814741910323))) / 2 ^ min (4 : Int).toNat IntKind.u64.bits + (IntKind.u64.wrap (Go.bits .and .u64 ((IntKind.u64.wrap (Go.bits .and .u64 ((IntKind.u64.wrap a0) / 2 ^ min (1 : Int).toNat IntKind.u64.bits) 6148914691236517205 + (Go.bits .and .u64 (IntKind.u64.wrap a0) 6148914691236517205))) / 2 ^ min (2 : Int).toNat IntKind.u64.bits) 3689348814741910323 + (Go.bits .and .u64 (IntKind.u64.wrap (Go.bits .and .u64 ((IntKind.u64.wrap a0) / 2 ^ min (1 : Int).toNat IntKind.u64.bits) 6148914691236517205 + (Go.bits .and .u64 (IntKind.u64.wrap a0) 6148914691236517205))) 3689348814741910323))))) 1085102592571150095 + ((Go.bits .and .u64 (IntKind.u64.wrap ((IntKind.u64.wrap (Go.bits .and .u64 ((IntKind.u64.wrap (Go.bits .and .u64 ((IntKind.u64.wrap a0) / 2 ^ min (1 : Int).toNat IntKind.u64.bits) 6148914691236517205 + (Go.bits .and .u64 (IntKind.u64.wrap a0) 6148914691236517205))) / 2 ^ min (2 : Int).toNat IntKind.u64.bits) 3689348814741910323 + (Go.bits .and .u64 (IntKind.u64.wrap (Go.bits .and .u64 ((IntKind.u64.wrap a0) / 2 ^ min (1 : Int).toNat IntKind.u64.bits) 6148914691236517205 + (Go.bits .and .u64 (IntKind.u64.wrap a0) 6148914691236517205))) 3689348814741910323))) / 2 ^ min (4 : Int).toNat IntKind.u64.bits + (IntKind.u64.wrap (Go.bits .and .u64 ((IntKind.u64.wrap (Go.bits .and .u64 ((IntKind.u64.wrap a0) / 2 ^ min (1 : Int).toNat IntKind.u64.bits) 6148914691236517205 + (Go.bits .and .u64 (IntKind.u64.wrap a0) 6148914691236517205))) / 2 ^ min (2 : Int).toNat IntKind.u64.bits) 3689348814741910323 + (Go.bits .and .u64 (IntKind.u64.wrap (Go.bits .and .u64 ((IntKind.u64.wrap a0) / 2 ^ min (1 : Int).toNat IntKind.u64.bits) 6148914691236517205 + (Go.bits .and .u64 (IntKind.u64.wrap a0) 6148914691236517205))) 3689348814741910323))))) 1085102592571150095) / 2 ^ min (8 : Int).toNat IntKind.u64.bits)) + ((IntKind.u64.wrap (Go.bits .and .u64 (IntKind.u64.wrap ((IntKind.u64.wrap (Go.bits .and .u64 ((IntKind.u64.wrap (Go.bits .and .u64 ((IntKind.u64.wrap a0) / 2 ^ min (1 : Int).toNat IntKind.u64.bits) 6148914691236517205 + (Go.bits .and .u64 (IntKind.u64.wrap a0) 6148914691236517205))) / 2 ^ min (2 : Int).toNat IntKind.u64.bits) 3689348814741910323 + (Go.bits .and .u64 (IntKind.u64.wrap (Go.bits .and .u64 ((IntKind.u64.wrap a0) / 2 ^ min (1 : Int).toNat IntKind.u64.bits) 6148914691236517205 + (Go.bits .and .u64 (IntKind.u64.wrap a0) 6148914691236517205))) 3689348814741910323))) / 2 ^ min (4 : Int).toNat IntKind.u64.bits + (IntKind.u64.wrap (Go.bits .and .u64 ((IntKind.u64.wrap (Go.bits .and .u64 ((IntKind.u64.wrap a0) / 2 ^ min (1 : Int).toNat IntKind.u64.bits) 6148914691236517205 + (Go.bits .and .u64 (IntKind.u64.wrap a0) 6148914691236517205))) / 2 ^ min (2 : Int).toNat IntKind.u64.bits) 3689348814741910323 + (Go.bits .and .u64 (IntKind.u64.wrap (Go.bits .and .u64 ((IntKind.u64.wrap a0) / 2 ^ min (1 : Int).toNat IntKind.u64.bits) 6148914691236517205 + (Go.bits .and .u64 (IntKind.u64.wrap a0) 6148914691236517205))) 3689348814741910323))))) 1085102592571150095 + ((Go.bits .and .u64 (IntKind.u64.wrap ((IntKind.u64.wrap (Go.bits .and .u64 ((IntKind.u64.wrap (Go.bits .and .u64 ((IntKind.u64.wrap a0) / 2 ^ min (1 : Int).toNat IntKind.u64.bits) 6148914691236517205 + (Go.bits .and .u64 (IntKind.u64.wrap a0) 6148914691236517205))) / 2 ^ min (2 : Int).toNat IntKind.u64.bits) 3689348814741910323 + (Go.bits .and .u64 (IntKind.u64.wrap (Go.bits .and .u64 ((IntKind.u64.wrap a0) / 2 ^ min (1 : Int).toNat IntKind.u64.bits) 6148914691236517205 + (Go.bits .and .u64 (IntKind.u64.wrap a0) 6148914691236517205))) 3689348814741910323))) / 2 ^ min (4 : Int).toNat IntKind.u64.bits + (IntKind.u64.wrap (Go.bits .and .u64 ((IntKind.u64.wrap (Go.bits .and .u64 ((IntKind.u64.wrap a0) / 2 ^ min (1 : Int).toNat IntKind.u64.bits) 6148914691236517205 + (Go.bits .and .u64 (IntKind.u64.wrap a0) 6148914691236517205))) / 2 ^ min (2 : Int).toNat IntKind.u64.bits) 3689348814741910323 + (Go.bits .and .u64 (IntKind.u64.wrap (Go.bits .and .u64 ((IntKind.u64.wrap a0) / 2 ^ min (1 : Int).toNat IntKind.u64.bits) 6148914691236517205 + (Go.bits .and .u64 (IntKind.u64.wrap a0) 6148914691236517205))) 3689348814741910323))))) 1085102592571150095) / 2 ^ min (8 : Int).toNat IntKind.u64.bits))) / 2 ^ min (16 : Int).toNat IntKind.u64.bits))) / 2 ^ min (32 : Int).toNat IntKind.u64.bits)))) 127, true)) else (some (0, false))
set_option maxHeartbeats 600000 in
set_option maxRecDepth 100000 in
theorem impl_DigitSum.calls {w0 ws : World} {P0 : Nat → Prop} (a0 : Int) (Z : Below w0.heap.size w0 ws) (hF : Fr w0 ws P0 [] ws)  (r_1 : Int) (r_2 : Bool) (h : impl_DigitSum.f a0 = some (r_1, r_2)) :
    Calls Try.prog 29 #[.int .i64 a0] ws (Post1 w0 ws P0 (fun (_ : Unit) => .tuple #[.int .i64 r_1, .bool r_2]) (fun (_ : Unit) => [])) := by
  unfold impl_DigitSum.f at h
  refine enter Try.func29 rfl Try.ntmps29 rfl hF ?_
  refine c_seq ?_
  refine za0 ?_
  refine o_q rfl rfl (q_asg rfl) ?_
  refine o_q rfl rfl (q_asg rfl) ?_
  refine o_end ?_
  refine za1 ?_
  refine c_seq ?_
  refine c_seq ?_
  refine za0 ?_
  refine o_q rfl rfl (za2 rfl) ?_
  refine zab h (fun b2 hx1 h => ?_) rfl
  refine o_e rfl (za8 0 Z Try.func74 N74 rfl rfl rfl (fun w P1 hF hB hS hT => impl_isNumber.calls a0 hB hF _ hx1)) (fun _ => ?_)
  refine o_q rfl rfl (q_not rfl) ?_
  refine o_end ?_
  refine za1 ?_
  refine zb0 _ rfl (fun hb3 => ?_) (fun hb3 => ?_)
  · replace hb3 := nt_t hb3
    replace h := bb_f hb3 h
    refine c_seq ?_
    refine za0 ?_
    refine o_q rfl rfl (q_asg rfl) ?_
    refine o_q rfl rfl (q_asg rfl) ?_
    refine o_end ?_
    refine za1 ?_
    refine c_ret ?_
    refine zai ?_
    have e0_ := Option.some.inj h; clear h
    have d0_ := (Prod.mk.inj e0_).1; have e1_ := (Prod.mk.inj e0_).2; clear e0_; subst d0_
    subst e1_
    exact x_r2 () Try.results29 (zal rfl) (zal rfl) rfl (fun w h => za6 [] (by decide) rfl w h)
  · replace hb3 := nt_f hb3
    replace h := bb_t hb3 h
    refine zat ?_
    refine za1 ?_
    refine c_seq ?_
    refine za0 ?_
    refine o_q rfl rfl (za2 rfl) ?_
    refine o_q rfl rfl (q_conv (by rw [Try.underlying3]; rfl) Try.underlying89 rfl) ?_
    refine zab h (fun _ hx4 h => ?_) rfl
    refine o_e rfl (za8 0 Z Try.func75 N75 rfl rfl rfl (fun w P1 hF hB hS hT => math_bits_OnesCount.calls (IntKind.u64.wrap a0) hB hF hx4)) (fun _ => ?_)
    refine o_q rfl rfl (q_asg rfl) ?_
    refine o_q rfl rfl (q_asg rfl) ?_
    refine o_end ?_
    refine za1 ?_
    refine c_ret ?_
    have e0_ := Option.some.inj h; clear h
    have d0_ := (Prod.mk.inj e0_).1; have e1_ := (Prod.mk.inj e0_).2; clear e0_; subst d0_
    subst e1_
    exact x_r2 () Try.results29 (zal rfl) (zal rfl) rfl (fun w h => za6 [] (by decide) rfl w h)

/-! ### loop.example/g01098/impl.BinaryPlan: function 32 -/
def impl_BinaryPlan.r0 : Int × Int → ((List SStep) × Int) → Option ((List SStep) × Int)
  | (ix_, y_), (l21, i24) => (impl_maker_multiply.f 1 l21 [] i24 i24).bind fun (i29, l30) => if y_ = 1 then ((impl_maker_multiply.f 1 l30 [] i29 0).bind fun (i35, l36) => some (l36, i35)) else (some (l30, i29))
def impl_BinaryPlan.f (k : Nat) (a0 : Int) : Option (Int × (List SStep) × (List Int) × Bool) := (impl_isNumber.f a0).bind fun b4 => if b4 = true then ((impl_newMaker.f 1).bind fun _ => (impl_digits.f k a0 2).bind fun l13 => (ct l13 (0 : Int) (w64 ((l13.length : Int) - 1))).bind fun l16 => (bw_int.f l16).bind fun _ => (rngB l16 (impl_BinaryPlan.r0) ([], 0)).bind fun (l26, i27) => (impl_maker_plan.f 1 l26 [] ([i27] : List Int)).bind fun _ => (impl_told.f k 1 l26 ([i27] : List Int)).bind fun (i44, l45, l46, b47) => some (i44, l45, l46, b47)) else (some (0, ([] : List SStep), ([] : List Int), false))
set_option maxHeartbeats 600000 in
set_option maxRecDepth 100000 in
theorem impl_BinaryPlan.calls (k : Nat) {w0 ws : World} {P0 : Nat → Prop} (a0 : Int) (Z : Below w0.heap.size w0 ws) (hF : Fr w0 ws P0 [] ws)  (r_1 : Int) (r_2 : List SStep) (r_5 : List Int) (r_8 : Bool) (h : impl_BinaryPlan.f k a0 = some (r_1, r_2, r_5, r_8)) :
    Calls Try.prog 32 #[.int .i64 a0] ws (Post1 w0 ws P0 (fun ((q_3, q_4, q_6, q_7) : (Option Addr) × Nat × (Option Addr) × Nat) => .tuple #[.agg #[.int .i64 r_1, .slice q_3 r_2.length q_4, .slice q_6 r_5.length q_7], .bool r_8]) (fun ((q_3, q_4, q_6, q_7) : (Option Addr) × Nat × (Option Addr) × Nat) => [row kStep 107 (.slice q_3 r_2.length q_4) r_2, row (Kd.int .i64) 3 (.slice q_6 r_5.length q_7) r_5])) := by
  unfold impl_BinaryPlan.f at h
  refine enterM Try.func32 rfl Try.ntmps32 rfl hF ?_
  refine c_seq ?_
  refine za0 ?_
  refine o_e rfl (zam V25 rfl) (fun g1 => ?_)
  refine o_q rfl rfl (q_asg rfl) ?_
  refine o_end ?_
  refine za1 ?_
  refine c_seq ?_
  refine c_seq ?_
  refine za0 ?_
  refine o_q rfl rfl (za2 rfl) ?_
  refine zab h (fun b4 hx3 h => ?_) rfl
  refine o_e rfl (za8 0 Z Try.func74 N74 rfl rfl rfl (fun w P1 hF hB hS hT => impl_isNumber.calls a0 hB hF _ hx3)) (fun _ => ?_)
  refine o_q rfl rfl (q_not rfl) ?_
  refine o_end ?_
  refine za1 ?_
  refine zb0 _ rfl (fun hb5 => ?_) (fun hb5 => ?_)
  · replace hb5 := nt_t hb5
    replace h := bb_f hb5 h
    refine c_seq ?_
    refine za0 ?_
    refine o_q rfl rfl (q_build (vs := []) (cs := [.int .i64 0, .slice none 0 0, .slice none 0 0]) rfl rfl) ?_
    refine o_e rfl (zav (i := 0) rfl rfl rfl Z25 rfl rfl) (fun _ => ?_)
    refine o_q rfl rfl (q_asg rfl) ?_
    refine o_end ?_
    refine za1 ?_
    refine c_ret ?_
    refine zai ?_
    refine x_nil kStep 107 ?_
    refine x_nil (Kd.int .i64) 3 ?_
    have e0_ := Option.some.inj h; clear h
    have d0_ := (Prod.mk.inj e0_).1; have e1_ := (Prod.mk.inj e0_).2; clear e0_; subst d0_
    have d1_ := (Prod.mk.inj e1_).1; have e2_ := (Prod.mk.inj e1_).2; clear e1_; subst d1_
    have d2_ := (Prod.mk.inj e2_).1; have e3_ := (Prod.mk.inj e2_).2; clear e2_; subst d2_
    subst e3_
    refine x_plainM (.inl rfl) ?_
    exact x_r2 (none, 0, none, 0) Try.results32 (rv_cell rfl G25 Z25 (fun w h => h.zaj (i := 2) rfl) rfl) (zal rfl) rfl (fun w h => za6 [1, 0] (by decide) rfl w h)
  · replace hb5 := nt_f hb5
    replace h := bb_t hb5 h
    refine zat ?_
    refine za1 ?_
    refine c_seq ?_
    refine za0 ?_
    refine zab h (fun _ hx6 h => ?_) rfl
    refine o_e rfl (za8 0 Z Try.func54 N54 rfl rfl rfl (fun w P1 hF hB hS hT => impl_newMaker.calls 1 hB hF hx6)) (fun c7 => ?_)
    refine o_e rfl (zam V60 rfl) (fun g8 => ?_)
    refine o_e rfl (zam V3 rfl) (fun g10 => ?_)
    refine o_e rfl (zad (i := 1) rfl rfl rfl rfl Z60 rfl rfl) (fun _ => ?_)
    refine o_e rfl (zad (i := 0) rfl rfl rfl rfl Z3 rfl rfl) (fun _ => ?_)
    refine o_end ?_
    refine za1 ?_
    refine c_seq ?_
    refine za0 ?_
    refine o_q rfl rfl (za2 rfl) ?_
    refine zab h (fun l13 hx12 h => ?_) rfl
    refine o_e rfl (za8 0 Z Try.func55 N55 rfl rfl rfl (fun w P1 hF hB hS hT => impl_digits.calls k a0 2 hB hF _ hx12)) (cur2 (fun A14 c15 => ?_))
    refine o_q rfl rfl (q_asg rfl) ?_
    refine o_end ?_
    refine za1 ?_
    refine c_seq ?_
    refine c_seq ?_
    refine za0 ?_
    refine o_q rfl rfl (za2 rfl) ?_
    refine o_q rfl rfl (za2 rfl) ?_
    refine o_q rfl rfl (q_len Try.underlying23 rfl) ?_
    refine o_q rfl rfl (zb5 rfl rfl) ?_
    refine zab h (fun l16 hz17 h => ?_) rfl
    refine zb4 (p := l13.length = l13.length ∧ l13.length ≤ c15) (fun w h => h.row_nc (i := 0) rfl) (fun hk18 => ?_)
    refine o_q rfl rfl (q_ctv Try.underlying23 Z3 rfl rfl ⟨_, rfl⟩ hk18.1 hk18.2 hz17) ?_
    refine zab h (fun _ hx19 h => ?_) rfl
    refine o_e rfl (za8 0 Z Try.func58 N58 rfl rfl rfl (fun w P1 hF hB hS hT => bw_int.calls (cutA A14 c15 (0 : Int).toNat 1) (c15 - (0 : Int).toNat) l16.length l16 hB hF (stab_cut (dk := (Kd.int .i64)) rfl hz17 hk18.2 (hT 0 _ rfl).row) (ct_cap hz17 hk18.1 hk18.2) hx19)) (fun c20 => ?_)
    refine o_end ?_
    refine za1 ?_
    refine zaq ?_
    refine bindE2 h (fun l26 i27 hrg25 h => ?_) rfl
    intro w_ hw_
    have hw1_ : Fr w0 _ _ ([box g10 3 #[.int .i64 0], box g8 60 #[.pointer (some ⟨c7, 0, none⟩)], box c7 94 #[.int .i64 1, .slice none 0 0, .slice none 0 0], row kStep 107 (.slice none 0 0) [], row (Kd.int .i64) 3 (.slice none 0 0) [], box g1 25 #[.int .i64 0, .slice none 0 0, .slice none 0 0]] ++ [box c20 23 #[.slice (cutA A14 c15 (0 : Int).toNat 1) l16.length (c15 - (0 : Int).toNat)], row (Kd.int .i64) 3 (.slice A14 l13.length c15) l13]) w_ := za6 [2, 3, 4, 5, 6, 7, 0, 1] (by decide) rfl w_ hw_
    obtain ⟨P2_, hF2_, hst_, hT_, hc2_, hback_⟩ := hw1_.here Z
    have Z2_ := hF2_.bel
    refine wpIn_any (N := ⟨40, [], none⟩) (n := 3) ?_
    refine wp_rangeE (σ := (List SStep) × Int) (τ := (Option Addr) × Nat) (α := BackT l16) (fun x => #[Value.int .i64 x.1.1, .int .i64 x.1.2]) (fun _ => rfl) ([], 0) (none, 0) (fun s x => stB (impl_BinaryPlan.r0) s x.1) (fun ((l21, i24) : (List SStep) × Int) ((A22, c23) : (Option Addr) × Nat) => [box g10 3 #[.int .i64 i24], box g8 60 #[.pointer (some ⟨c7, 0, none⟩)], box c7 94 #[.int .i64 1, .slice A22 l21.length c23, .slice none 0 0], row kStep 107 (.slice A22 l21.length c23) l21, row (Kd.int .i64) 3 (.slice none 0 0) [], box g1 25 #[.int .i64 0, .slice none 0 0, .slice none 0 0]]) (fun x => [(23, .int .i64 x.1.2), (22, .int .i64 x.1.1)]) (fun x => [(8, .int .i64 x.1.2), (23, .int .i64 x.1.2), (22, .int .i64 x.1.1)]) rfl (enters9 Try.func116 N116 rfl) hF2_ (bk_int c20 (cutA A14 c15 (0 : Int).toNat 1) (c15 - (0 : Int).toNat) l16 (stab_cut (dk := (Kd.int .i64)) rfl hz17 hk18.2 (hT_ 1 _ rfl).row) (Own.box (hT_ 0 _ rfl))) (fun x => act_zip2) ?_ ?_ ?_ ?_
    · rintro ⟨l21, i24⟩ ⟨l21', i24'⟩ ⟨A22, c23⟩ ⟨A22', c23'⟩ W_ h1_ h2_
      have e_ := box_det h1_ h2_ (i := 0) (i' := 0) rfl rfl
      have d_ := congrArg (fun a : Array Value => a.getD 0 (.bool false)) e_
      injection d_ with d1_ d2_; subst d2_
      have e_ := box_det h1_ h2_ (i := 2) (i' := 2) rfl rfl
      have d_ := congrArg (fun a : Array Value => a.getD 1 (.bool false)) e_
      injection d_ with d1_ d2_ d3_
      subst d1_; subst d3_
      have d4_ : l21 = l21' := C_det (fun _ x y cs a b => by have e_ := (show cs = _ from a).symm.trans (show cs = _ from b); cases x; cases y; simpa using e_) d2_ (h1_.row_C (i := 3) rfl).1 (h2_.row_C (i := 3) rfl).1; subst d4_
      rfl
    · intro l_ s_ t_ x_ W_ P_ Z_ hst2_
      refine za0 ?_
      refine o_q rfl rfl (q_asg rfl) ?_
      refine o_end ?_
      intro w3_ hw3_
      exact ⟨rfl, hw3_⟩
    · intro l_ pre_ x_ t_ W_ P_ Z_ hst2_ hlen_ s_ hs_ s2_ hs2_
      obtain ⟨z_, h, hz_⟩ := rng_round hrg25 pre_ x_ hlen_
      rw [← hs_] at h hz_
      obtain rfl : z_ = s2_ := hz_.symm.trans hs2_
      clear hs_ hs2_ hz_ hlen_ pre_ hrg25
      obtain ⟨⟨ix_, y_⟩, hx_⟩ := x_
      obtain ⟨A22, c23⟩ := t_
      obtain ⟨l21, i24⟩ := s_; obtain ⟨l21_, i24_⟩ := z_
      have Z := Z_
      replace h : ((impl_maker_multiply.f 1 l21 [] i24 i24).bind fun (i29, l30) => if y_ = 1 then ((impl_maker_multiply.f 1 l30 [] i29 0).bind fun (i35, l36) => some (l36, i35)) else (some (l30, i29))) = some (l21_, i24_) := h
      refine zaq ?_
      refine c_seq ?_
      refine za0 ?_
      refine o_q rfl rfl (q_ldb Y60 rfl (fun w h => h.zaj (i := 1) rfl) rfl) ?_
      refine o_q rfl rfl (q_ldb Y3 rfl (fun w h => h.zaj (i := 0) rfl) rfl) ?_
      refine o_q rfl rfl (q_ldb Y3 rfl (fun w h => h.zaj (i := 0) rfl) rfl) ?_
      refine o_pick [2, 3, 0, 1, 4, 5] (by decide) rfl ?_
      refine bindE2 h (fun i29 l30 hx28 h => ?_) rfl
      refine o_e rfl (za8 2 Z Try.func57 N57 rfl rfl rfl (fun w P1 hF hB hS hT => impl_maker_multiply.calls c7 1 A22 c23 l21.length l21 none 0 0 [] i24 i24 hB hF (hT 2 _ rfl).row (hT 2 _ rfl).cap _ _ hx28)) (cur2 (fun A31 c32 => ?_))
      refine o_e rfl (zad (i := 2) rfl rfl rfl rfl Z3 rfl rfl) (fun _ => ?_)
      refine o_end ?_
      refine za1 ?_
      refine c_seq ?_
      refine za0 ?_
      refine o_q rfl rfl (za2 rfl) ?_
      refine o_q rfl rfl (q_eql rfl rfl) ?_
      refine o_end ?_
      refine za1 ?_
      refine zb0 _ rfl (fun hb33 => ?_) (fun hb33 => ?_)
      · skip
        replace h := br_t hb33 h
        refine za0 ?_
        refine o_q rfl rfl (q_ldb Y60 rfl (fun w h => h.zaj (i := 3) rfl) rfl) ?_
        refine o_q rfl rfl (q_ldb Y3 rfl (fun w h => h.zaj (i := 2) rfl) rfl) ?_
        refine bindE2 h (fun i35 l36 hx34 h => ?_) rfl
        refine o_e rfl (za8 2 Z Try.func57 N57 rfl rfl rfl (fun w P1 hF hB hS hT => impl_maker_multiply.calls c7 1 A31 c32 l30.length l30 none 0 0 [] i29 0 hB hF (hT 2 _ rfl).row (hT 2 _ rfl).cap _ _ hx34)) (cur2 (fun A37 c38 => ?_))
        refine o_e rfl (zad (i := 2) rfl rfl rfl rfl Z3 rfl rfl) (fun _ => ?_)
        refine o_end ?_
        refine zas ?_
        have e0_ := Option.some.inj h; clear h
        have d0_ := (Prod.mk.inj e0_).1; have e1_ := (Prod.mk.inj e0_).2; clear e0_; subst d0_
        subst e1_
        intro w3_ hw3_
        exact ⟨(A37, c38), (fun w h => za6 [2, 3, 0, 1, 4, 5] (by decide) rfl w h) w3_ hw3_⟩
      · skip
        replace h := br_f hb33 h
        refine zat ?_
        refine zas ?_
        have e0_ := Option.some.inj h; clear h
        have d0_ := (Prod.mk.inj e0_).1; have e1_ := (Prod.mk.inj e0_).2; clear e0_; subst d0_
        subst e1_
        intro w3_ hw3_
        exact ⟨(A31, c32), (fun w h => za6 [2, 3, 0, 1, 4, 5] (by decide) rfl w h) w3_ hw3_⟩
    · intro D_ xs_ W_ t_ s_ hs_ hD_ hS_ hFW_ hdf_
      obtain rfl : s_ = (l26, i27) := hs_.trans (rng_done hrg25 hS_)
      clear hs_ hS_
      obtain ⟨A22o, c23o⟩ := t_
      obtain ⟨P4_, hF4_, hst4_, _, hc4_, hback4_⟩ := (show Fr w0 w_ P2_ ([box g10 3 #[.int .i64 i27], box g8 60 #[.pointer (some ⟨c7, 0, none⟩)], box c7 94 #[.int .i64 1, .slice A22o l26.length c23o, .slice none 0 0], row kStep 107 (.slice A22o l26.length c23o) l26, row (Kd.int .i64) 3 (.slice none 0 0) [], box g1 25 #[.int .i64 0, .slice none 0 0, .slice none 0 0]] ++ []) W_ from hFW_).here Z2_
      have hmk_ := mark_stab hc4_ hdf_
      have hws_ : ws.heap.size ≤ D_ := Nat.le_trans (hw_.keptB Z).kept.1 hD_
      have hbk_ : ∀ (Ts : List (Thing w0.heap.size)) w, Fr w0 W_ P4_ Ts w → Fr w0 ws P0 Ts w := fun Ts w h => hback_ _ _ (hback4_ _ _ h)
      refine (show X ⟨40, [{ target := .collected D_, args := #[] }], none⟩ w0 W_ P4_ .normal _ _ _ from ?_) W_ hF4_
      have Zo_ := Z; have Z := hF4_.bel
      refine zas ?_
      refine za1 ?_
      refine c_seq ?_
      refine za0 ?_
      refine o_q rfl rfl (q_ldb Y60 rfl (fun w h => h.zaj (i := 1) rfl) rfl) ?_
      refine o_q rfl rfl (q_ldb Y3 rfl (fun w h => h.zaj (i := 0) rfl) rfl) ?_
      refine o_e rfl (e_lit (vs := [(0, .int .i64 i27)]) (cs := [.int .i64 i27]) (Kd.int .i64) ([i27] : List Int) Try.underlying23 I3 (by decide) rfl (by decide) rfl rfl (fun _ _ => Kd.zah _)) (cur2 (fun A39 c40 => ?_))
      refine o_pick [3, 4, 0, 1, 2, 5, 6] (by decide) rfl ?_
      refine zab h (fun _ hx42 h => ?_) rfl
      refine o_e rfl (za8 3 Z Try.func60 N60 rfl rfl rfl (fun w P1 hF hB hS hT => impl_maker_plan.calls c7 1 A22o c23o l26.length l26 none 0 0 [] A39 c40 (([i27] : List Int).length) ([i27] : List Int) hB hF (hT 2 _ rfl).row (hT 2 _ rfl).cap hx42)) (fun _ => ?_)
      refine bindE4 h (fun i44 l45 l46 b47 hx43 h => ?_) rfl
      refine o_e rfl (za8 2 Z Try.func61 N61 rfl rfl rfl (fun w P1 hF hB hS hT => impl_told.calls k 1 A22o c23o l26.length l26 A39 c40 (([i27] : List Int).length) ([i27] : List Int) hB hF _ _ _ _ hx43)) (cur4 (fun A48 c49 A50 c51 => ?_))
      refine o_q rfl rfl (q_ext rfl rfl) ?_
      refine o_q rfl rfl (q_ext rfl rfl) ?_
      refine o_e rfl (zav (i := 6) rfl rfl rfl Z25 rfl rfl) (fun _ => ?_)
      refine o_q rfl rfl (q_asg rfl) ?_
      refine o_end ?_
      refine za1 ?_
      refine c_ret ?_
      have e0_ := Option.some.inj h; clear h
      have d0_ := (Prod.mk.inj e0_).1; have e1_ := (Prod.mk.inj e0_).2; clear e0_; subst d0_
      have d1_ := (Prod.mk.inj e1_).1; have e2_ := (Prod.mk.inj e1_).2; clear e1_; subst d1_
      have d2_ := (Prod.mk.inj e2_).1; have e3_ := (Prod.mk.inj e2_).2; clear e2_; subst d2_
      subst e3_
      refine x_mark (D := D_) Zo_ hws_ hmk_ Z hbk_ ?_
      exact x_r2 (A48, c49, A50, c51) Try.results32 (rv_cell rfl G25 Z25 (fun w h => h.zaj (i := 6) rfl) rfl) (zal rfl) rfl (fun w h => za6 [0, 1] (by decide) rfl w h)

/-! ### loop.example/g01098/impl.BinaryCost: function 30 -/
def impl_BinaryCost.f (k : Nat) (a0 : Int) : Option (Int × Bool) := (impl_BinaryPlan.f k a0).bind fun (i2, l3, l4, b5) => some ((l3.length : Int), b5)
set_option maxHeartbeats 600000 in
set_option maxRecDepth 100000 in
theorem impl_BinaryCost.calls (k : Nat) {w0 ws : World} {P0 : Nat → Prop} (a0 : Int) (Z : Below w0.heap.size w0 ws) (hF : Fr w0 ws P0 [] ws)  (r_1 : Int) (r_2 : Bool) (h : impl_BinaryCost.f k a0 = some (r_1, r_2)) :
    Calls Try.prog 30 #[.int .i64 a0] ws (Post1 w0 ws P0 (fun (_ : Unit) => .tuple #[.int .i64 r_1, .bool r_2]) (fun (_ : Unit) => [])) := by
  unfold impl_BinaryCost.f at h
  refine enter Try.func30 rfl Try.ntmps30 rfl hF ?_
  refine c_seq ?_
  refine za0 ?_
  refine o_q rfl rfl (q_asg rfl) ?_
  refine o_q rfl rfl (q_asg rfl) ?_
  refine o_end ?_
  refine za1 ?_
  refine c_seq ?_
  refine za0 ?_
  refine o_q rfl rfl (za2 rfl) ?_
  refine bindE4 h (fun i2 l3 l4 b5 hx1 h => ?_) rfl
  refine o_e rfl (za8 0 Z Try.func32 N32 rfl rfl rfl (fun w P1 hF hB hS hT => impl_BinaryPlan.calls k a0 hB hF _ _ _ _ hx1)) (cur4 (fun A6 c7 A8 c9 => ?_))
  refine o_q rfl rfl (za2 rfl) ?_
  refine o_q rfl rfl (q_ext rfl rfl) ?_
  refine o_q rfl rfl (q_ext rfl rfl) ?_
  refine o_e rfl (zam V25 rfl) (fun g10 => ?_)
  refine o_e rfl (zav (i := 0) rfl rfl rfl Z25 rfl rfl) (fun _ => ?_)
  refine o_q rfl rfl (q_asg rfl) ?_
  refine o_end ?_
  refine za1 ?_
  refine c_seq ?_
  refine za0 ?_
  refine o_q rfl rfl (q_f F25_1 rfl) ?_
  refine o_q rfl rfl (q_ldb Y22 rfl (fun w h => h.zaj (i := 0) rfl) rfl) ?_
  refine o_q rfl rfl (q_len Try.underlying22 rfl) ?_
  refine o_q rfl rfl (za2 rfl) ?_
  refine o_q rfl rfl (q_asg rfl) ?_
  refine o_q rfl rfl (q_asg rfl) ?_
  refine o_end ?_
  refine za1 ?_
  refine c_ret ?_
  have e0_ := Option.some.inj h; clear h
  have d0_ := (Prod.mk.inj e0_).1; have e1_ := (Prod.mk.inj e0_).2; clear e0_; subst d0_
  subst e1_
  exact x_r2 () Try.results30 (zal rfl) (zal rfl) rfl (fun w h => za6 [] (by decide) rfl w h)

/-! ### loop.example/g01098/laws.FnWindowsMakePlans: function 6 -/
def laws_FnWindowsMakePlans.l0 (i6 : Int) : (List Int) → Int → Int → Option ((Bool) ⊕ (Int))
  | [], i108, i109 => some (.inr i109)
  | y110 :: ys111, i108, i109 => (impl_DigitSum.f y110).bind fun (i135, b136) => if b136 = true then (if y110.tmod 2 = 0 then (some (.inl false)) else ((nn i6).bind fun _ => if IntKind.i64.wrap (1 * 2 ^ min (i6 : Int).toNat IntKind.i64.bits) ≤ y110 then (some (.inl false)) else (laws_FnWindowsMakePlans.l0 i6 ys111 (i108 + 1) (w64 (i109 + i135))))) else (some (.inl false))
def laws_FnWindowsMakePlans.f (k : Nat) (l0 : List Int) (l1 : List Int) : Option Bool := (laws_big.f l0 l1).bind fun b2 => if b2 = true then (some true) else ((spec_DrawSlidingPlan.f l0).bind fun (i5, i6) => (impl_SlidingPlan.f k i5 i6).bind fun (i8, l9, l10, b11) => (spec_SlidingPlan.f k i5 i6).bind fun (i19, l20, l21, b22) => if (b11 != b22) = true then (some false) else ((laws_pSamePlan.f i8 l9 l10 i19 l20 l21).bind fun b31 => if b31 = true then ((impl_WindowPlan.f k i5 i6).bind fun (i34, l35, l36, b37) => (spec_WindowPlan.f k i5 i6).bind fun (i45, l46, l47, b48) => (if (b37 != b48) = true then (some (.inl false)) else ((laws_pSamePlan.f i34 l35 l36 i45 l46 l47).bind fun b78 => if b78 = true then (if b11 = true then ((laws_pEnds.f k i8 l9 l10 i5).bind fun b82 => if b82 = true then (if b37 = true then ((laws_pEnds.f k i34 l35 l36 i5).bind fun b86 => if b86 = true then (some (.inr ())) else (some (.inl false))) else (some (.inr ()))) else (some (.inl false))) else (if b37 = true then ((laws_pEnds.f k i34 l35 l36 i5).bind fun b90 => if b90 = true then (some (.inr ())) else (some (.inl false))) else (some (.inr ())))) else (some (.inl false))) : Option ((Bool) ⊕ (Unit))).bind fun o_ => match o_ with | .inl r_ => some r_ | .inr _ => (impl_WindowsOf.f k i5 i6).bind fun (l93, b94) => (spec_WindowsOf.f k i5 i6).bind fun (l98, b99) => if (b94 != b99) = true then (some false) else ((laws_pSameInts.f l93 l98).bind fun b104 => if b104 = true then (if b94 = true then ((laws_FnWindowsMakePlans.l0 i6 l93 0 0).bind fun o_ => match o_ with | .inl r_ => some r_ | .inr i109 => (impl_DigitSum.f i5).bind fun (i121, b122) => (impl_BinaryCost.f k i5).bind fun (i124, b125) => if b122 = true then (if b125 = true then (if i109 = i121 then (if 1 < i6 then (some true) else (if b11 = true then (if b37 = true then (if (l9.length : Int) = i124 then (some (decide ((l35.length : Int) = i124))) else (some false)) else (some false)) else (some false))) else (some false)) else (some false)) else (some false)) else (if b11 = true then (some false) else (some (!b37)))) else (some false))) else (some false)))
set_option maxHeartbeats 8000000 in
set_option maxRecDepth 100000 in
theorem laws_FnWindowsMakePlans.calls (k : Nat) {w0 ws : World} {P0 : Nat → Prop} (A0 : Option Addr) (c0 : Nat) (n0 : Nat) (l0 : List Int) (A1 : Option Addr) (c1 : Nat) (n1 : Nat) (l1 : List Int) (Z : Below w0.heap.size w0 ws) (hF : Fr w0 ws P0 [] ws) (R0 : Stable ws P0 (fun w => Kd.C (Kd.int .u8) w A0 n0 l0)) (hc0 : n0 ≤ c0) (R1 : Stable ws P0 (fun w => Kd.C (Kd.int .u8) w A1 n1 l1)) (hc1 : n1 ≤ c1) (r_1 : Bool) (h : laws_FnWindowsMakePlans.f k l0 l1 = some r_1) :
    Calls Try.prog 6 #[.slice A0 n0 c0, .slice A1 n1 c1] ws (Post1 w0 ws P0 (fun (_ : Unit) => .bool r_1) (fun (_ : Unit) => [])) := by
  unfold laws_FnWindowsMakePlans.f at h
  obtain rfl := (R0 ws (KeptB.refl _ _)).1
  obtain rfl := (R1 ws (KeptB.refl _ _)).1
  refine enter Try.func6 rfl Try.ntmps6 rfl hF ?_
  refine c_seq ?_
  refine za0 ?_
  refine o_q rfl rfl (q_asg rfl) ?_
  refine o_end ?_
  refine za1 ?_
  refine c_seq ?_
  refine c_seq ?_
  refine za0 ?_
  refine o_q rfl rfl (za2 rfl) ?_
  refine o_q rfl rfl (za2 rfl) ?_
  refine zab h (fun b2 hx1 h => ?_) rfl
  refine o_e rfl (za8 0 Z Try.func22 N22 rfl rfl rfl (fun w P1 hF hB hS hT => laws_big.calls A0 c0 l0.length l0 A1 c1 l1.length l1 hB hF (hS _ R0) hc0 (hS _ R1) hc1 _ hx1)) (fun _ => ?_)
  refine o_end ?_
  refine za1 ?_
  refine zb0 _ rfl (fun hb3 => ?_) (fun hb3 => ?_)
  · skip
    replace h := bb_t hb3 h
    refine c_seq ?_
    refine za0 ?_
    refine o_q rfl rfl (q_asg rfl) ?_
    refine o_end ?_
    refine za1 ?_
    refine c_ret ?_
    refine zai ?_
    have e0_ := Option.some.inj h; clear h
    subst e0_
    exact x_r1 () Try.results6 (zal rfl) rfl (fun w h => za6 [] (by decide) rfl w h)
  · skip
    replace h := bb_f hb3 h
    refine zat ?_
    refine za1 ?_
    refine c_seq ?_
    refine za0 ?_
    refine o_q rfl rfl (za2 rfl) ?_
    refine bindE2 h (fun i5 i6 hx4 h => ?_) rfl
    refine o_e rfl (za8 0 Z Try.func23 N23 rfl rfl rfl (fun w P1 hF hB hS hT => spec_DrawSlidingPlan.calls A0 c0 l0.length l0 hB hF (hS _ R0) hc0 _ _ hx4)) (fun _ => ?_)
    refine o_q rfl rfl (za2 rfl) ?_
    refine o_q rfl rfl (q_ext rfl rfl) ?_
    refine o_q rfl rfl (q_ext rfl rfl) ?_
    refine o_q rfl rfl (q_asg rfl) ?_
    refine o_q rfl rfl (q_asg rfl) ?_
    refine o_end ?_
    refine za1 ?_
    refine c_seq ?_
    refine za0 ?_
    refine o_q rfl rfl (za2 rfl) ?_
    refine o_q rfl rfl (za2 rfl) ?_
    refine bindE4 h (fun i8 l9 l10 b11 hx7 h => ?_) rfl
    refine o_e rfl (za8 0 Z Try.func16 N16 rfl rfl rfl (fun w P1 hF hB hS hT => impl_SlidingPlan.calls k i5 i6 hB hF _ _ _ _ hx7)) (cur4 (fun A12 c13 A14 c15 => ?_))
    refine o_q rfl rfl (za2 rfl) ?_
    refine o_q rfl rfl (q_ext rfl rfl) ?_
    refine o_q rfl rfl (q_ext rfl rfl) ?_
    refine o_e rfl (zam V25 rfl) (fun g16 => ?_)
    refine o_e rfl (zav (i := 0) rfl rfl rfl Z25 rfl rfl) (fun _ => ?_)
    refine o_q rfl rfl (q_asg rfl) ?_
    refine o_end ?_
    refine za1 ?_
    refine c_seq ?_
    refine za0 ?_
    refine o_q rfl rfl (za2 rfl) ?_
    refine o_q rfl rfl (za2 rfl) ?_
    refine bindE4 h (fun i19 l20 l21 b22 hx18 h => ?_) rfl
    refine o_e rfl (za8 0 Z Try.func15 N15 rfl rfl rfl (fun w P1 hF hB hS hT => spec_SlidingPlan.calls k i5 i6 hB hF _ _ _ _ hx18)) (cur4 (fun A23 c24 A25 c26 => ?_))
    refine o_q rfl rfl (za2 rfl) ?_
    refine o_q rfl rfl (q_ext rfl rfl) ?_
    refine o_q rfl rfl (q_ext rfl rfl) ?_
    refine o_e rfl (zam V25 rfl) (fun g27 => ?_)
    refine o_e rfl (zav (i := 0) rfl rfl rfl Z25 rfl rfl) (fun _ => ?_)
    refine o_q rfl rfl (q_asg rfl) ?_
    refine o_end ?_
    refine za1 ?_
    refine c_seq ?_
    refine c_seq ?_
    refine za0 ?_
    refine o_q rfl rfl (za2 rfl) ?_
    refine o_q rfl rfl (za2 rfl) ?_
    refine o_q rfl rfl (q_bneq Try.underlying4 rfl rfl) ?_
    refine o_q rfl rfl (za2 rfl) ?_
    refine byB (b11 != b22) (fun hb29 => ?_) (fun hb29 => ?_)
    · replace h := bb_t hb29 h
      refine @o_n _ _ _ _ _ _ _ _ _ _ _ 52 (za4 rfl rfl rfl (congrArg Value.bool hb29) rfl) (Eq.refl (some 52)) ?_
      refine @o_n _ _ _ _ _ _ _ _ _ _ _ 53 (za4 rfl rfl rfl (congrArg Value.bool hb29) rfl) (Eq.refl (some 53)) ?_
      refine @o_n _ _ _ _ _ _ _ _ _ _ _ 54 (za4 rfl rfl rfl (congrArg Value.bool hb29) rfl) (Eq.refl (some 54)) ?_
      refine @o_n _ _ _ _ _ _ _ _ _ _ _ 55 (za4 rfl rfl rfl (congrArg Value.bool hb29) rfl) (Eq.refl (some 55)) ?_
      refine o_q rfl rfl (zau true (congrArg Value.bool hb29) rfl) ?_
      refine o_end ?_
      refine za1 ?_
      refine c_true rfl ?_
      refine c_seq ?_
      refine za0 ?_
      refine o_q rfl rfl (q_asg rfl) ?_
      refine o_end ?_
      refine za1 ?_
      refine c_ret ?_
      refine zai ?_
      have e0_ := Option.some.inj h; clear h
      subst e0_
      exact x_r1 () Try.results6 (zal rfl) rfl (fun w h => za6 [] (by decide) rfl w h)
    · replace h := bb_f hb29 h
      refine o_w (za5 rfl rfl rfl (congrArg Value.bool hb29)) rfl (q_ldB G25 Z25 rfl (fun w h => h.zaj (i := 3) rfl) rfl) ?_
      refine o_w (za5 rfl rfl rfl (congrArg Value.bool hb29)) rfl (q_ldB G25 Z25 rfl (fun w h => h.zaj (i := 0) rfl) rfl) ?_
      refine zab h (fun b31 hx30 h => ?_) rfl
      refine o_ew (za5 rfl rfl rfl (congrArg Value.bool hb29)) (za8 0 Z Try.func24 N24 rfl rfl rfl (fun w P1 hF hB hS hT => laws_pSamePlan.calls i8 A12 c13 l9.length l9 A14 c15 l10.length l10 i19 A23 c24 l20.length l20 A25 c26 l21.length l21 hB hF (hT 4 _ rfl).row (hT 4 _ rfl).cap (hT 5 _ rfl).row (hT 5 _ rfl).cap (hT 1 _ rfl).row (hT 1 _ rfl).cap (hT 2 _ rfl).row (hT 2 _ rfl).cap _ hx30)) (fun _ => ?_)
      refine o_w (za5 rfl rfl rfl (congrArg Value.bool hb29)) rfl (q_not rfl) ?_
      refine o_q rfl rfl (zau false (congrArg Value.bool hb29) rfl) ?_
      refine o_end ?_
      refine za1 ?_
      refine zb0 _ rfl (fun hb32 => ?_) (fun hb32 => ?_)
      · replace hb32 := nt_t hb32
        replace h := bb_f hb32 h
        refine c_seq ?_
        refine za0 ?_
        refine o_q rfl rfl (q_asg rfl) ?_
        refine o_end ?_
        refine za1 ?_
        refine c_ret ?_
        refine zai ?_
        have e0_ := Option.some.inj h; clear h
        subst e0_
        exact x_r1 () Try.results6 (zal rfl) rfl (fun w h => za6 [] (by decide) rfl w h)
      · replace hb32 := nt_f hb32
        replace h := bb_t hb32 h
        refine zat ?_
        refine za1 ?_
        refine c_seq ?_
        refine za0 ?_
        refine o_q rfl rfl (za2 rfl) ?_
        refine o_q rfl rfl (za2 rfl) ?_
        refine bindE4 h (fun i34 l35 l36 b37 hx33 h => ?_) rfl
        refine o_e rfl (za8 0 Z Try.func11 N11 rfl rfl rfl (fun w P1 hF hB hS hT => impl_WindowPlan.calls k i5 i6 hB hF _ _ _ _ hx33)) (cur4 (fun A38 c39 A40 c41 => ?_))
        refine o_q rfl rfl (za2 rfl) ?_
        refine o_q rfl rfl (q_ext rfl rfl) ?_
        refine o_q rfl rfl (q_ext rfl rfl) ?_
        refine o_e rfl (zam V25 rfl) (fun g42 => ?_)
        refine o_e rfl (zav (i := 0) rfl rfl rfl Z25 rfl rfl) (fun _ => ?_)
        refine o_q rfl rfl (q_asg rfl) ?_
        refine o_end ?_
        refine za1 ?_
        refine c_seq ?_
        refine za0 ?_
        refine o_q rfl rfl (za2 rfl) ?_
        refine o_q rfl rfl (za2 rfl) ?_
        refine bindE4 h (fun i45 l46 l47 b48 hx44 h => ?_) rfl
        refine o_e rfl (za8 0 Z Try.func10 N10 rfl rfl rfl (fun w P1 hF hB hS hT => spec_WindowPlan.calls k i5 i6 hB hF _ _ _ _ hx44)) (cur4 (fun A49 c50 A51 c52 => ?_))
        refine o_q rfl rfl (za2 rfl) ?_
        refine o_q rfl rfl (q_ext rfl rfl) ?_
        refine o_q rfl rfl (q_ext rfl rfl) ?_
        refine o_e rfl (zam V25 rfl) (fun g53 => ?_)
        refine o_e rfl (zav (i := 0) rfl rfl rfl Z25 rfl rfl) (fun _ => ?_)
        refine o_q rfl rfl (q_asg rfl) ?_
        refine o_end ?_
        refine za1 ?_
        refine zab h (fun o71 hl72 hR73 => ?_) rfl
        clear h
        refine c_cutJ (σ := Unit) (fun _ => some (.inr ()) = some o71) [4, 69, 70, 71, 72, 73, 74, 75, 76, 77, 78, 79, 80, 81, 82, 83, 84, 85, 86, 87, 88, 89, 90, 91, 92, 93, 94, 95] (fun _ => []) (fun _ => [box g16 25 #[.int .i64 i8, .slice A12 l9.length c13, .slice A14 l10.length c15], row kStep 107 (.slice A12 l9.length c13) l9, row (Kd.int .i64) 3 (.slice A14 l10.length c15) l10, box g42 25 #[.int .i64 i34, .slice A38 l35.length c39, .slice A40 l36.length c41], row kStep 107 (.slice A38 l35.length c39) l35, row (Kd.int .i64) 3 (.slice A40 l36.length c41) l36, box g53 25 #[.int .i64 i45, .slice A49 l46.length c50, .slice A51 l47.length c52], row kStep 107 (.slice A49 l46.length c50) l46, row (Kd.int .i64) 3 (.slice A51 l47.length c52) l47, box g27 25 #[.int .i64 i19, .slice A23 l20.length c24, .slice A25 l21.length c26], row kStep 107 (.slice A23 l20.length c24) l20, row (Kd.int .i64) 3 (.slice A25 l21.length c26) l21]) ?_ ?_
        · skip
          have h := hl72; clear hl72
          refine c_seq ?_
          refine za0 ?_
          refine o_q rfl rfl (za2 rfl) ?_
          refine o_q rfl rfl (za2 rfl) ?_
          refine o_q rfl rfl (q_bneq Try.underlying4 rfl rfl) ?_
          refine o_q rfl rfl (za2 rfl) ?_
          refine byB (b37 != b48) (fun hb76 => ?_) (fun hb76 => ?_)
          · replace h := bb_t hb76 h
            refine @o_n _ _ _ _ _ _ _ _ _ _ _ 73 (za4 rfl rfl rfl (congrArg Value.bool hb76) rfl) (Eq.refl (some 73)) ?_
            refine @o_n _ _ _ _ _ _ _ _ _ _ _ 74 (za4 rfl rfl rfl (congrArg Value.bool hb76) rfl) (Eq.refl (some 74)) ?_
            refine @o_n _ _ _ _ _ _ _ _ _ _ _ 75 (za4 rfl rfl rfl (congrArg Value.bool hb76) rfl) (Eq.refl (some 75)) ?_
            refine @o_n _ _ _ _ _ _ _ _ _ _ _ 76 (za4 rfl rfl rfl (congrArg Value.bool hb76) rfl) (Eq.refl (some 76)) ?_
            refine o_q rfl rfl (zau true (congrArg Value.bool hb76) rfl) ?_
            refine o_q rfl rfl (za2 rfl) ?_
            refine @o_n _ _ _ _ _ _ _ _ _ _ _ 79 (za4 rfl rfl rfl rfl rfl) (Eq.refl (some 79)) ?_
            refine @o_n _ _ _ _ _ _ _ _ _ _ _ 80 (za4 rfl rfl rfl rfl rfl) (Eq.refl (some 80)) ?_
            refine @o_n _ _ _ _ _ _ _ _ _ _ _ 81 (zak rfl rfl rfl rfl) (Eq.refl (some 81)) ?_
            refine @o_n _ _ _ _ _ _ _ _ _ _ _ 82 (zak rfl rfl rfl rfl) (Eq.refl (some 82)) ?_
            refine @o_n _ _ _ _ _ _ _ _ _ _ _ 83 (zak rfl rfl rfl rfl) (Eq.refl (some 83)) ?_
            refine @o_n _ _ _ _ _ _ _ _ _ _ _ 84 (zak rfl rfl rfl rfl) (Eq.refl (some 84)) ?_
            refine @o_n _ _ _ _ _ _ _ _ _ _ _ 85 (za4 rfl rfl rfl rfl rfl) (Eq.refl (some 85)) ?_
            refine o_q rfl rfl (zau true rfl rfl) ?_
            refine o_q rfl rfl (za2 rfl) ?_
            refine @o_n _ _ _ _ _ _ _ _ _ _ _ 88 (za4 rfl rfl rfl rfl rfl) (Eq.refl (some 88)) ?_
            refine @o_n _ _ _ _ _ _ _ _ _ _ _ 89 (za4 rfl rfl rfl rfl rfl) (Eq.refl (some 89)) ?_
            refine @o_n _ _ _ _ _ _ _ _ _ _ _ 90 (zak rfl rfl rfl rfl) (Eq.refl (some 90)) ?_
            refine @o_n _ _ _ _ _ _ _ _ _ _ _ 91 (zak rfl rfl rfl rfl) (Eq.refl (some 91)) ?_
            refine @o_n _ _ _ _ _ _ _ _ _ _ _ 92 (zak rfl rfl rfl rfl) (Eq.refl (some 92)) ?_
            refine @o_n _ _ _ _ _ _ _ _ _ _ _ 93 (zak rfl rfl rfl rfl) (Eq.refl (some 93)) ?_
            refine @o_n _ _ _ _ _ _ _ _ _ _ _ 94 (za4 rfl rfl rfl rfl rfl) (Eq.refl (some 94)) ?_
            refine o_q rfl rfl (zau true rfl rfl) ?_
            refine o_end ?_
            refine za1 ?_
            refine c_true rfl ?_
            refine c_seq ?_
            refine za0 ?_
            refine o_q rfl rfl (q_asg rfl) ?_
            refine o_end ?_
            refine za1 ?_
            refine c_ret ?_
            refine zai ?_
            have e_ := Option.some.inj h; replace h := hR73; rw [← e_] at h; clear e_
            have e0_ := Option.some.inj h; clear h
            subst e0_
            exact x_r1 () Try.results6 (zal rfl) rfl (fun w h => za6 [] (by decide) rfl w h)
          · replace h := bb_f hb76 h
            refine o_w (za5 rfl rfl rfl (congrArg Value.bool hb76)) rfl (q_ldB G25 Z25 rfl (fun w h => h.zaj (i := 3) rfl) rfl) ?_
            refine o_w (za5 rfl rfl rfl (congrArg Value.bool hb76)) rfl (q_ldB G25 Z25 rfl (fun w h => h.zaj (i := 0) rfl) rfl) ?_
            refine zab h (fun b78 hx77 h => ?_) rfl
            refine o_ew (za5 rfl rfl rfl (congrArg Value.bool hb76)) (za8 0 Z Try.func24 N24 rfl rfl rfl (fun w P1 hF hB hS hT => laws_pSamePlan.calls i34 A38 c39 l35.length l35 A40 c41 l36.length l36 i45 A49 c50 l46.length l46 A51 c52 l47.length l47 hB hF (hT 4 _ rfl).row (hT 4 _ rfl).cap (hT 5 _ rfl).row (hT 5 _ rfl).cap (hT 1 _ rfl).row (hT 1 _ rfl).cap (hT 2 _ rfl).row (hT 2 _ rfl).cap _ hx77)) (fun _ => ?_)
            refine o_w (za5 rfl rfl rfl (congrArg Value.bool hb76)) rfl (q_not rfl) ?_
            refine o_q rfl rfl (zau false (congrArg Value.bool hb76) rfl) ?_
            refine o_q rfl rfl (za2 rfl) ?_
            refine byB b78 (fun hb79 => ?_) (fun hb79 => ?_)
            · replace h := bb_t hb79 h
              refine o_w (za5 rfl rfl rfl (congrArg (fun b => Value.bool (!(b))) hb79)) rfl (za2 rfl) ?_
              refine o_w (za5 rfl rfl rfl (congrArg (fun b => Value.bool (!(b))) hb79)) rfl (za2 rfl) ?_
              refine byB b11 (fun hb80 => ?_) (fun hb80 => ?_)
              · replace h := bb_t hb80 h
                refine o_w (za5 rfl rfl rfl (congrArg Value.bool hb80)) rfl (q_ldB G25 Z25 rfl (fun w h => h.zaj (i := 9) rfl) rfl) ?_
                refine o_w (za5 rfl rfl rfl (congrArg Value.bool hb80)) rfl (za2 rfl) ?_
                refine zab h (fun b82 hx81 h => ?_) rfl
                refine o_ew (za5 rfl rfl rfl (congrArg Value.bool hb80)) (za8 0 Z Try.func25 N25 rfl rfl rfl (fun w P1 hF hB hS hT => laws_pEnds.calls k i8 A12 c13 l9.length l9 A14 c15 l10.length l10 i5 hB hF (hT 10 _ rfl).row (hT 10 _ rfl).cap (hT 11 _ rfl).row (hT 11 _ rfl).cap _ hx81)) (fun _ => ?_)
                refine o_w (za5 rfl rfl rfl (congrArg Value.bool hb80)) rfl (q_not rfl) ?_
                refine o_w (za5 rfl rfl rfl (congrArg (fun b => Value.bool (!(b))) hb79)) rfl (zau true (congrArg Value.bool hb80) rfl) ?_
                refine o_q rfl rfl (zau false (congrArg (fun b => Value.bool (!(b))) hb79) rfl) ?_
                refine o_q rfl rfl (za2 rfl) ?_
                refine byB b82 (fun hb83 => ?_) (fun hb83 => ?_)
                · replace h := bb_t hb83 h
                  refine o_w (za5 rfl rfl rfl (congrArg (fun b => Value.bool (!(b))) hb83)) rfl (za2 rfl) ?_
                  refine o_w (za5 rfl rfl rfl (congrArg (fun b => Value.bool (!(b))) hb83)) rfl (za2 rfl) ?_
                  refine byB b37 (fun hb84 => ?_) (fun hb84 => ?_)
                  · replace h := bb_t hb84 h
                    refine o_w (za5 rfl rfl rfl (congrArg Value.bool hb84)) rfl (q_ldB G25 Z25 rfl (fun w h => h.zaj (i := 3) rfl) rfl) ?_
                    refine o_w (za5 rfl rfl rfl (congrArg Value.bool hb84)) rfl (za2 rfl) ?_
                    refine zab h (fun b86 hx85 h => ?_) rfl
                    refine o_ew (za5 rfl rfl rfl (congrArg Value.bool hb84)) (za8 0 Z Try.func25 N25 rfl rfl rfl (fun w P1 hF hB hS hT => laws_pEnds.calls k i34 A38 c39 l35.length l35 A40 c41 l36.length l36 i5 hB hF (hT 4 _ rfl).row (hT 4 _ rfl).cap (hT 5 _ rfl).row (hT 5 _ rfl).cap _ hx85)) (fun _ => ?_)
                    refine o_w (za5 rfl rfl rfl (congrArg Value.bool hb84)) rfl (q_not rfl) ?_
                    refine o_w (za5 rfl rfl rfl (congrArg (fun b => Value.bool (!(b))) hb83)) rfl (zau true (congrArg Value.bool hb84) rfl) ?_
                    refine o_q rfl rfl (zau false (congrArg (fun b => Value.bool (!(b))) hb83) rfl) ?_
                    refine o_end ?_
                    refine za1 ?_
                    refine zb0 _ rfl (fun hb87 => ?_) (fun hb87 => ?_)
                    · replace hb87 := nt_t hb87
                      replace h := bb_f hb87 h
                      refine c_seq ?_
                      refine za0 ?_
                      refine o_q rfl rfl (q_asg rfl) ?_
                      refine o_end ?_
                      refine za1 ?_
                      refine c_ret ?_
                      refine zai ?_
                      have e_ := Option.some.inj h; replace h := hR73; rw [← e_] at h; clear e_
                      have e0_ := Option.some.inj h; clear h
                      subst e0_
                      exact x_r1 () Try.results6 (zal rfl) rfl (fun w h => za6 [] (by decide) rfl w h)
                    · replace hb87 := nt_f hb87
                      replace h := bb_t hb87 h
                      refine zat ?_
                      refine zao () h trivial (fun w h => za6 [9, 10, 11, 3, 4, 5, 0, 1, 2, 6, 7, 8] (by decide) rfl w h) ?_
                      repeat (first | exact za9 _ _ | refine zae rfl ?_ | refine zaa rfl ?_ | refine zaf rfl ?_)
                  · replace h := bb_f hb84 h
                    refine @o_n _ _ _ _ _ _ _ _ _ _ _ 90 (za4 rfl rfl rfl (congrArg Value.bool hb84) rfl) (Eq.refl (some 90)) ?_
                    refine @o_n _ _ _ _ _ _ _ _ _ _ _ 91 (za4 rfl rfl rfl (congrArg Value.bool hb84) rfl) (Eq.refl (some 91)) ?_
                    refine @o_n _ _ _ _ _ _ _ _ _ _ _ 92 (za4 rfl rfl rfl (congrArg Value.bool hb84) rfl) (Eq.refl (some 92)) ?_
                    refine @o_n _ _ _ _ _ _ _ _ _ _ _ 93 (za4 rfl rfl rfl (congrArg Value.bool hb84) rfl) (Eq.refl (some 93)) ?_
                    refine o_w (za5 rfl rfl rfl (congrArg (fun b => Value.bool (!(b))) hb83)) rfl (zau false (congrArg Value.bool hb84) rfl) ?_
                    refine o_q rfl rfl (zau false (congrArg (fun b => Value.bool (!(b))) hb83) rfl) ?_
                    refine o_end ?_
                    refine za1 ?_
                    refine c_false rfl ?_
                    refine zat ?_
                    refine zao () h trivial (fun w h => za6 [9, 10, 11, 3, 4, 5, 0, 1, 2, 6, 7, 8] (by decide) rfl w h) ?_
                    repeat (first | exact za9 _ _ | refine zae rfl ?_ | refine zaa rfl ?_ | refine zaf rfl ?_)
                · replace h := bb_f hb83 h
                  refine @o_n _ _ _ _ _ _ _ _ _ _ _ 88 (za4 rfl rfl rfl (congrArg (fun b => Value.bool (!(b))) hb83) rfl) (Eq.refl (some 88)) ?_
                  refine @o_n _ _ _ _ _ _ _ _ _ _ _ 89 (za4 rfl rfl rfl (congrArg (fun b => Value.bool (!(b))) hb83) rfl) (Eq.refl (some 89)) ?_
                  refine @o_n _ _ _ _ _ _ _ _ _ _ _ 90 (zak rfl rfl rfl rfl) (Eq.refl (some 90)) ?_
                  refine @o_n _ _ _ _ _ _ _ _ _ _ _ 91 (zak rfl rfl rfl rfl) (Eq.refl (some 91)) ?_
                  refine @o_n _ _ _ _ _ _ _ _ _ _ _ 92 (zak rfl rfl rfl rfl) (Eq.refl (some 92)) ?_
                  refine @o_n _ _ _ _ _ _ _ _ _ _ _ 93 (zak rfl rfl rfl rfl) (Eq.refl (some 93)) ?_
                  refine @o_n _ _ _ _ _ _ _ _ _ _ _ 94 (za4 rfl rfl rfl (congrArg (fun b => Value.bool (!(b))) hb83) rfl) (Eq.refl (some 94)) ?_
                  refine o_q rfl rfl (zau true (congrArg (fun b => Value.bool (!(b))) hb83) rfl) ?_
                  refine o_end ?_
                  refine za1 ?_
                  refine c_true rfl ?_
                  refine c_seq ?_
                  refine za0 ?_
                  refine o_q rfl rfl (q_asg rfl) ?_
                  refine o_end ?_
                  refine za1 ?_
                  refine c_ret ?_
                  refine zai ?_
                  have e_ := Option.some.inj h; replace h := hR73; rw [← e_] at h; clear e_
                  have e0_ := Option.some.inj h; clear h
                  subst e0_
                  exact x_r1 () Try.results6 (zal rfl) rfl (fun w h => za6 [] (by decide) rfl w h)
              · replace h := bb_f hb80 h
                refine @o_n _ _ _ _ _ _ _ _ _ _ _ 81 (za4 rfl rfl rfl (congrArg Value.bool hb80) rfl) (Eq.refl (some 81)) ?_
                refine @o_n _ _ _ _ _ _ _ _ _ _ _ 82 (za4 rfl rfl rfl (congrArg Value.bool hb80) rfl) (Eq.refl (some 82)) ?_
                refine @o_n _ _ _ _ _ _ _ _ _ _ _ 83 (za4 rfl rfl rfl (congrArg Value.bool hb80) rfl) (Eq.refl (some 83)) ?_
                refine @o_n _ _ _ _ _ _ _ _ _ _ _ 84 (za4 rfl rfl rfl (congrArg Value.bool hb80) rfl) (Eq.refl (some 84)) ?_
                refine o_w (za5 rfl rfl rfl (congrArg (fun b => Value.bool (!(b))) hb79)) rfl (zau false (congrArg Value.bool hb80) rfl) ?_
                refine o_q rfl rfl (zau false (congrArg (fun b => Value.bool (!(b))) hb79) rfl) ?_
                refine o_q rfl rfl (za2 rfl) ?_
                refine o_w (za5 rfl rfl rfl rfl) rfl (za2 rfl) ?_
                refine o_w (za5 rfl rfl rfl rfl) rfl (za2 rfl) ?_
                refine byB b37 (fun hb88 => ?_) (fun hb88 => ?_)
                · replace h := bb_t hb88 h
                  refine o_w (za5 rfl rfl rfl (congrArg Value.bool hb88)) rfl (q_ldB G25 Z25 rfl (fun w h => h.zaj (i := 3) rfl) rfl) ?_
                  refine o_w (za5 rfl rfl rfl (congrArg Value.bool hb88)) rfl (za2 rfl) ?_
                  refine zab h (fun b90 hx89 h => ?_) rfl
                  refine o_ew (za5 rfl rfl rfl (congrArg Value.bool hb88)) (za8 0 Z Try.func25 N25 rfl rfl rfl (fun w P1 hF hB hS hT => laws_pEnds.calls k i34 A38 c39 l35.length l35 A40 c41 l36.length l36 i5 hB hF (hT 4 _ rfl).row (hT 4 _ rfl).cap (hT 5 _ rfl).row (hT 5 _ rfl).cap _ hx89)) (fun _ => ?_)
                  refine o_w (za5 rfl rfl rfl (congrArg Value.bool hb88)) rfl (q_not rfl) ?_
                  refine o_w (za5 rfl rfl rfl rfl) rfl (zau true (congrArg Value.bool hb88) rfl) ?_
                  refine o_q rfl rfl (zau false rfl rfl) ?_
                  refine o_end ?_
                  refine za1 ?_
                  refine zb0 _ rfl (fun hb91 => ?_) (fun hb91 => ?_)
                  · replace hb91 := nt_t hb91
                    replace h := bb_f hb91 h
                    refine c_seq ?_
                    refine za0 ?_
                    refine o_q rfl rfl (q_asg rfl) ?_
                    refine o_end ?_
                    refine za1 ?_
                    refine c_ret ?_
                    refine zai ?_
                    have e_ := Option.some.inj h; replace h := hR73; rw [← e_] at h; clear e_
                    have e0_ := Option.some.inj h; clear h
                    subst e0_
                    exact x_r1 () Try.results6 (zal rfl) rfl (fun w h => za6 [] (by decide) rfl w h)
                  · replace hb91 := nt_f hb91
                    replace h := bb_t hb91 h
                    refine zat ?_
                    refine zao () h trivial (fun w h => za6 [9, 10, 11, 3, 4, 5, 0, 1, 2, 6, 7, 8] (by decide) rfl w h) ?_
                    repeat (first | exact za9 _ _ | refine zae rfl ?_ | refine zaa rfl ?_ | refine zaf rfl ?_)
                · replace h := bb_f hb88 h
                  refine @o_n _ _ _ _ _ _ _ _ _ _ _ 90 (za4 rfl rfl rfl (congrArg Value.bool hb88) rfl) (Eq.refl (some 90)) ?_
                  refine @o_n _ _ _ _ _ _ _ _ _ _ _ 91 (za4 rfl rfl rfl (congrArg Value.bool hb88) rfl) (Eq.refl (some 91)) ?_
                  refine @o_n _ _ _ _ _ _ _ _ _ _ _ 92 (za4 rfl rfl rfl (congrArg Value.bool hb88) rfl) (Eq.refl (some 92)) ?_
                  refine @o_n _ _ _ _ _ _ _ _ _ _ _ 93 (za4 rfl rfl rfl (congrArg Value.bool hb88) rfl) (Eq.refl (some 93)) ?_
                  refine o_w (za5 rfl rfl rfl rfl) rfl (zau false (congrArg Value.bool hb88) rfl) ?_
                  refine o_q rfl rfl (zau false rfl rfl) ?_
                  refine o_end ?_
                  refine za1 ?_
                  refine c_false rfl ?_
                  refine zat ?_
                  refine zao () h trivial (fun w h => za6 [9, 10, 11, 3, 4, 5, 0, 1, 2, 6, 7, 8] (by decide) rfl w h) ?_
                  repeat (first | exact za9 _ _ | refine zae rfl ?_ | refine zaa rfl ?_ | refine zaf rfl ?_)
            · replace h := bb_f hb79 h
              refine @o_n _ _ _ _ _ _ _ _ _ _ _ 79 (za4 rfl rfl rfl (congrArg (fun b => Value.bool (!(b))) hb79) rfl) (Eq.refl (some 79)) ?_
              refine @o_n _ _ _ _ _ _ _ _ _ _ _ 80 (za4 rfl rfl rfl (congrArg (fun b => Value.bool (!(b))) hb79) rfl) (Eq.refl (some 80)) ?_
              refine @o_n _ _ _ _ _ _ _ _ _ _ _ 81 (zak rfl rfl rfl rfl) (Eq.refl (some 81)) ?_
              refine @o_n _ _ _ _ _ _ _ _ _ _ _ 82 (zak rfl rfl rfl rfl) (Eq.refl (some 82)) ?_
              refine @o_n _ _ _ _ _ _ _ _ _ _ _ 83 (zak rfl rfl rfl rfl) (Eq.refl (some 83)) ?_
              refine @o_n _ _ _ _ _ _ _ _ _ _ _ 84 (zak rfl rfl rfl rfl) (Eq.refl (some 84)) ?_
              refine @o_n _ _ _ _ _ _ _ _ _ _ _ 85 (za4 rfl rfl rfl (congrArg (fun b => Value.bool (!(b))) hb79) rfl) (Eq.refl (some 85)) ?_
              refine o_q rfl rfl (zau true (congrArg (fun b => Value.bool (!(b))) hb79) rfl) ?_
              refine o_q rfl rfl (za2 rfl) ?_
              refine @o_n _ _ _ _ _ _ _ _ _ _ _ 88 (za4 rfl rfl rfl rfl rfl) (Eq.refl (some 88)) ?_
              refine @o_n _ _ _ _ _ _ _ _ _ _ _ 89 (za4 rfl rfl rfl rfl rfl) (Eq.refl (some 89)) ?_
              refine @o_n _ _ _ _ _ _ _ _ _ _ _ 90 (zak rfl rfl rfl rfl) (Eq.refl (some 90)) ?_
              refine @o_n _ _ _ _ _ _ _ _ _ _ _ 91 (zak rfl rfl rfl rfl) (Eq.refl (some 91)) ?_
              refine @o_n _ _ _ _ _ _ _ _ _ _ _ 92 (zak rfl rfl rfl rfl) (Eq.refl (some 92)) ?_
              refine @o_n _ _ _ _ _ _ _ _ _ _ _ 93 (zak rfl rfl rfl rfl) (Eq.refl (some 93)) ?_
              refine @o_n _ _ _ _ _ _ _ _ _ _ _ 94 (za4 rfl rfl rfl rfl rfl) (Eq.refl (some 94)) ?_
              refine o_q rfl rfl (zau true rfl rfl) ?_
              refine o_end ?_
              refine za1 ?_
              refine c_true rfl ?_
              refine c_seq ?_
              refine za0 ?_
              refine o_q rfl rfl (q_asg rfl) ?_
              refine o_end ?_
              refine za1 ?_
              refine c_ret ?_
              refine zai ?_
              have e_ := Option.some.inj h; replace h := hR73; rw [← e_] at h; clear e_
              have e0_ := Option.some.inj h; clear h
              subst e0_
              exact x_r1 () Try.results6 (zal rfl) rfl (fun w h => za6 [] (by decide) rfl w h)
        · skip
          refine (fun _ => fun U74 hJ75 => ?_)
          have e_ := Option.some.inj hJ75; have h := hR73; rw [← e_] at h; clear e_ hJ75 hR73 hl72
          refine c_seq ?_
          refine za0 ?_
          refine o_q rfl rfl (za2 rfl) ?_
          refine o_q rfl rfl (za2 rfl) ?_
          refine bindE2 h (fun l93 b94 hx92 h => ?_) rfl
          refine o_e rfl (za8 0 Z Try.func26 N26 rfl rfl rfl (fun w P1 hF hB hS hT => impl_WindowsOf.calls k i5 i6 hB hF _ _ hx92)) (cur2 (fun A95 c96 => ?_))
          refine o_q rfl rfl (za2 rfl) ?_
          refine o_q rfl rfl (q_ext rfl rfl) ?_
          refine o_q rfl rfl (q_ext rfl rfl) ?_
          refine o_q rfl rfl (q_asg rfl) ?_
          refine o_q rfl rfl (q_asg rfl) ?_
          refine o_end ?_
          refine za1 ?_
          refine c_seq ?_
          refine za0 ?_
          refine o_q rfl rfl (za2 rfl) ?_
          refine o_q rfl rfl (za2 rfl) ?_
          refine bindE2 h (fun l98 b99 hx97 h => ?_) rfl
          refine o_e rfl (za8 0 Z Try.func27 N27 rfl rfl rfl (fun w P1 hF hB hS hT => spec_WindowsOf.calls k i5 i6 hB hF _ _ hx97)) (cur2 (fun A100 c101 => ?_))
          refine o_q rfl rfl (za2 rfl) ?_
          refine o_q rfl rfl (q_ext rfl rfl) ?_
          refine o_q rfl rfl (q_ext rfl rfl) ?_
          refine o_q rfl rfl (q_asg rfl) ?_
          refine o_q rfl rfl (q_asg rfl) ?_
          refine o_end ?_
          refine za1 ?_
          refine c_seq ?_
          refine c_seq ?_
          refine za0 ?_
          refine o_q rfl rfl (za2 rfl) ?_
          refine o_q rfl rfl (za2 rfl) ?_
          refine o_q rfl rfl (q_bneq Try.underlying4 rfl rfl) ?_
          refine o_q rfl rfl (za2 rfl) ?_
          refine byB (b94 != b99) (fun hb102 => ?_) (fun hb102 => ?_)
          · replace h := bb_t hb102 h
            refine @o_n _ _ _ _ _ _ _ _ _ _ _ 112 (za4 rfl rfl rfl (congrArg Value.bool hb102) rfl) (Eq.refl (some 112)) ?_
            refine @o_n _ _ _ _ _ _ _ _ _ _ _ 113 (za4 rfl rfl rfl (congrArg Value.bool hb102) rfl) (Eq.refl (some 113)) ?_
            refine @o_n _ _ _ _ _ _ _ _ _ _ _ 114 (za4 rfl rfl rfl (congrArg Value.bool hb102) rfl) (Eq.refl (some 114)) ?_
            refine @o_n _ _ _ _ _ _ _ _ _ _ _ 115 (za4 rfl rfl rfl (congrArg Value.bool hb102) rfl) (Eq.refl (some 115)) ?_
            refine o_q rfl rfl (zau true (congrArg Value.bool hb102) rfl) ?_
            refine o_end ?_
            refine za1 ?_
            refine c_true rfl ?_
            refine c_seq ?_
            refine za0 ?_
            refine o_q rfl rfl (q_asg rfl) ?_
            refine o_end ?_
            refine za1 ?_
            refine c_ret ?_
            refine zai ?_
            have e0_ := Option.some.inj h; clear h
            subst e0_
            exact x_r1 () Try.results6 (zal rfl) rfl (fun w h => za6 [] (by decide) rfl w h)
          · replace h := bb_f hb102 h
            refine o_w (za5 rfl rfl rfl (congrArg Value.bool hb102)) rfl (za2 rfl) ?_
            refine o_w (za5 rfl rfl rfl (congrArg Value.bool hb102)) rfl (za2 rfl) ?_
            refine zab h (fun b104 hx103 h => ?_) rfl
            refine o_ew (za5 rfl rfl rfl (congrArg Value.bool hb102)) (za8 0 Z Try.func28 N28 rfl rfl rfl (fun w P1 hF hB hS hT => laws_pSameInts.calls A95 c96 l93.length l93 A100 c101 l98.length l98 hB hF (hT 1 _ rfl).row (hT 1 _ rfl).cap (hT 0 _ rfl).row (hT 0 _ rfl).cap _ hx103)) (fun _ => ?_)
            refine o_w (za5 rfl rfl rfl (congrArg Value.bool hb102)) rfl (q_not rfl) ?_
            refine o_q rfl rfl (zau false (congrArg Value.bool hb102) rfl) ?_
            refine o_end ?_
            refine za1 ?_
            refine zb0 _ rfl (fun hb105 => ?_) (fun hb105 => ?_)
            · replace hb105 := nt_t hb105
              replace h := bb_f hb105 h
              refine c_seq ?_
              refine za0 ?_
              refine o_q rfl rfl (q_asg rfl) ?_
              refine o_end ?_
              refine za1 ?_
              refine c_ret ?_
              refine zai ?_
              have e0_ := Option.some.inj h; clear h
              subst e0_
              exact x_r1 () Try.results6 (zal rfl) rfl (fun w h => za6 [] (by decide) rfl w h)
            · replace hb105 := nt_f hb105
              replace h := bb_t hb105 h
              refine zat ?_
              refine za1 ?_
              refine c_seq ?_
              refine c_seq ?_
              refine za0 ?_
              refine o_q rfl rfl (za2 rfl) ?_
              refine o_q rfl rfl (q_not rfl) ?_
              refine o_end ?_
              refine za1 ?_
              refine zb0 _ rfl (fun hb106 => ?_) (fun hb106 => ?_)
              · replace hb106 := nt_t hb106
                replace h := bb_f hb106 h
                refine c_seq ?_
                refine za0 ?_
                refine o_q rfl rfl (za2 rfl) ?_
                refine o_q rfl rfl (q_not rfl) ?_
                refine o_q rfl rfl (za2 rfl) ?_
                refine byB b11 (fun hb107 => ?_) (fun hb107 => ?_)
                · replace h := bb_t hb107 h
                  refine @o_n _ _ _ _ _ _ _ _ _ _ _ 122 (za4 rfl rfl rfl (congrArg (fun b => Value.bool (!(b))) hb107) rfl) (Eq.refl (some 122)) ?_
                  refine @o_n _ _ _ _ _ _ _ _ _ _ _ 123 (za4 rfl rfl rfl (congrArg (fun b => Value.bool (!(b))) hb107) rfl) (Eq.refl (some 123)) ?_
                  refine o_q rfl rfl (zau false (congrArg (fun b => Value.bool (!(b))) hb107) rfl) ?_
                  refine o_q rfl rfl (q_asg rfl) ?_
                  refine o_end ?_
                  refine za1 ?_
                  refine c_ret ?_
                  refine zai ?_
                  have e0_ := Option.some.inj h; clear h
                  subst e0_
                  exact x_r1 () Try.results6 (zal rfl) rfl (fun w h => za6 [] (by decide) rfl w h)
                · replace h := bb_f hb107 h
                  refine o_w (za5 rfl rfl rfl (congrArg (fun b => Value.bool (!(b))) hb107)) rfl (za2 rfl) ?_
                  refine o_w (za5 rfl rfl rfl (congrArg (fun b => Value.bool (!(b))) hb107)) rfl (q_not rfl) ?_
                  refine o_q rfl rfl (zau true (congrArg (fun b => Value.bool (!(b))) hb107) rfl) ?_
                  refine o_q rfl rfl (q_asg rfl) ?_
                  refine o_end ?_
                  refine za1 ?_
                  refine c_ret ?_
                  refine zai ?_
                  have e0_ := Option.some.inj h; clear h
                  subst e0_
                  exact x_r1 () Try.results6 (zal rfl) rfl (fun w h => za6 [] (by decide) rfl w h)
              · replace hb106 := nt_f hb106
                replace h := bb_t hb106 h
                refine zat ?_
                refine za1 ?_
                refine c_seq ?_
                refine za0 ?_
                refine o_q rfl rfl (q_asg rfl) ?_
                refine o_end ?_
                refine za1 ?_
                refine c_seq ?_
                refine c_seq ?_
                refine za0 ?_
                refine o_q rfl rfl (za2 rfl) ?_
                refine o_q rfl rfl (q_len Try.underlying23 rfl) ?_
                refine o_q rfl rfl (za2 rfl) ?_
                refine o_end ?_
                refine za1 ?_
                refine zaq ?_
                refine zab h (fun o117 hl116 hR115 => ?_) rfl
                clear h
                refine c_fact (p := l93.length ≤ 9223372036854775807) (fun w h => (h.zaw (i := 1) rfl).2.1) (fun hm114 => ?_)
                refine zb3 (σ := (List Int) × Int × Int) (fun k112 ((ys111, i108, i109) : (List Int) × Int × Int) => Rg l93 i108 ys111 ∧ ys111.length = k112 ∧ laws_FnWindowsMakePlans.l0 i6 ys111 i108 i109 = some o117) [4, 19, 21, 22, 23, 127, 128, 129, 130, 131, 132, 133, 134, 135, 136, 137, 138, 139, 140, 141, 142, 143, 144, 145, 146, 147, 148, 149, 150, 151, 152] (fun ((ys111, i108, i109) : (List Int) × Int × Int) => [(19, .int .i64 i109), (127, .int .i64 i108)]) (fun ((ys111, i108, i109) : (List Int) × Int × Int) => [row (Kd.int .i64) 3 (.slice A100 l98.length c101) l98, row (Kd.int .i64) 3 (.slice A95 l93.length c96) l93, box g16 25 #[.int .i64 i8, .slice A12 l9.length c13, .slice A14 l10.length c15], row kStep 107 (.slice A12 l9.length c13) l9, row (Kd.int .i64) 3 (.slice A14 l10.length c15) l10, box g42 25 #[.int .i64 i34, .slice A38 l35.length c39, .slice A40 l36.length c41], row kStep 107 (.slice A38 l35.length c39) l35, row (Kd.int .i64) 3 (.slice A40 l36.length c41) l36, box g53 25 #[.int .i64 i45, .slice A49 l46.length c50, .slice A51 l47.length c52], row kStep 107 (.slice A49 l46.length c50) l46, row (Kd.int .i64) 3 (.slice A51 l47.length c52) l47, box g27 25 #[.int .i64 i19, .slice A23 l20.length c24, .slice A25 l21.length c26], row kStep 107 (.slice A23 l20.length c24) l20, row (Kd.int .i64) 3 (.slice A25 l21.length c26) l21]) l93.length (l93, 0, 0) ⟨Rg.start _, rfl, hl116⟩ ⟨rfl, rfl, trivial⟩ (fun w h => h) ?_
                refine fun k112 => cur3 (listC (fun i108 i109 U118 hJ_ => ?_) (fun y110 ys111 i108 i109 U118 hJ_ => ?_))
                · skip
                  clear hl116
                  have hr113 := hJ_.1; have hk119 := hJ_.2.1; have h := hJ_.2.2; clear hJ_
                  replace h : laws_FnWindowsMakePlans.l0 i6 [] i108 i109 = some o117 := h
                  rw [laws_FnWindowsMakePlans.l0] at h
                  refine c_seq ?_
                  refine za0 ?_
                  refine o_q rfl rfl (q_lss rfl rfl) ?_
                  refine o_end ?_
                  refine za1 ?_
                  refine c_seq ?_
                  refine c_false (congrArg Value.bool hr113.ge) ?_
                  refine c_exit ?_
                  refine zac ?_
                  refine zac ?_
                  have e_ := Option.some.inj h; replace h := hR115; rw [← e_] at h; clear e_
                  refine x_hit ?_
                  refine za1 ?_
                  refine c_seq ?_
                  refine za0 ?_
                  refine o_q rfl rfl (za2 rfl) ?_
                  refine bindE2 h (fun i121 b122 hx120 h => ?_) rfl
                  refine o_e rfl (za8 0 Z Try.func29 N29 rfl rfl rfl (fun w P1 hF hB hS hT => impl_DigitSum.calls i5 hB hF _ _ hx120)) (fun _ => ?_)
                  refine o_q rfl rfl (za2 rfl) ?_
                  refine o_q rfl rfl (q_ext rfl rfl) ?_
                  refine o_q rfl rfl (q_ext rfl rfl) ?_
                  refine o_q rfl rfl (q_asg rfl) ?_
                  refine o_q rfl rfl (q_asg rfl) ?_
                  refine o_end ?_
                  refine za1 ?_
                  refine c_seq ?_
                  refine za0 ?_
                  refine o_q rfl rfl (za2 rfl) ?_
                  refine bindE2 h (fun i124 b125 hx123 h => ?_) rfl
                  refine o_e rfl (za8 0 Z Try.func30 N30 rfl rfl rfl (fun w P1 hF hB hS hT => impl_BinaryCost.calls k i5 hB hF _ _ hx123)) (fun _ => ?_)
                  refine o_q rfl rfl (za2 rfl) ?_
                  refine o_q rfl rfl (q_ext rfl rfl) ?_
                  refine o_q rfl rfl (q_ext rfl rfl) ?_
                  refine o_q rfl rfl (q_asg rfl) ?_
                  refine o_q rfl rfl (q_asg rfl) ?_
                  refine o_end ?_
                  refine za1 ?_
                  refine c_seq ?_
                  refine za0 ?_
                  refine o_q rfl rfl (za2 rfl) ?_
                  refine o_q rfl rfl (za2 rfl) ?_
                  refine byB b122 (fun hb126 => ?_) (fun hb126 => ?_)
                  · replace h := bb_t hb126 h
                    refine o_w (za5 rfl rfl rfl (congrArg Value.bool hb126)) rfl (za2 rfl) ?_
                    refine o_q rfl rfl (zau true (congrArg Value.bool hb126) rfl) ?_
                    refine o_q rfl rfl (za2 rfl) ?_
                    refine byB b125 (fun hb127 => ?_) (fun hb127 => ?_)
                    · replace h := bb_t hb127 h
                      refine o_w (za5 rfl rfl rfl (congrArg Value.bool hb127)) rfl (za2 rfl) ?_
                      refine o_w (za5 rfl rfl rfl (congrArg Value.bool hb127)) rfl (za2 rfl) ?_
                      refine o_w (za5 rfl rfl rfl (congrArg Value.bool hb127)) rfl (q_eql rfl rfl) ?_
                      refine o_q rfl rfl (zau true (congrArg Value.bool hb127) rfl) ?_
                      refine o_q rfl rfl (za2 rfl) ?_
                      refine byB (decide (i109 = i121)) (fun hb128 => ?_) (fun hb128 => ?_)
                      · replace h := br_t hb128 h
                        refine o_w (za5 rfl rfl rfl (congrArg Value.bool hb128)) rfl (za2 rfl) ?_
                        refine o_w (za5 rfl rfl rfl (congrArg Value.bool hb128)) rfl (q_gtr rfl rfl) ?_
                        refine o_w (za5 rfl rfl rfl (congrArg Value.bool hb128)) rfl (za2 rfl) ?_
                        refine byB (decide (1 < i6)) (fun hb129 => ?_) (fun hb129 => ?_)
                        · replace h := br_t hb129 h
                          refine @o_n _ _ _ _ _ _ _ _ _ _ _ 176 (za4 rfl rfl rfl (congrArg Value.bool hb129) rfl) (Eq.refl (some 176)) ?_
                          refine @o_n _ _ _ _ _ _ _ _ _ _ _ 177 (za4 rfl rfl rfl (congrArg Value.bool hb129) rfl) (Eq.refl (some 177)) ?_
                          refine @o_n _ _ _ _ _ _ _ _ _ _ _ 178 (zak rfl rfl rfl rfl) (Eq.refl (some 178)) ?_
                          refine @o_n _ _ _ _ _ _ _ _ _ _ _ 179 (za4 rfl rfl rfl (congrArg Value.bool hb129) rfl) (Eq.refl (some 179)) ?_
                          refine @o_n _ _ _ _ _ _ _ _ _ _ _ 180 (za4 rfl rfl rfl (congrArg Value.bool hb129) rfl) (Eq.refl (some 180)) ?_
                          refine @o_n _ _ _ _ _ _ _ _ _ _ _ 181 (zak rfl rfl rfl rfl) (Eq.refl (some 181)) ?_
                          refine @o_n _ _ _ _ _ _ _ _ _ _ _ 182 (zak rfl rfl rfl rfl) (Eq.refl (some 182)) ?_
                          refine @o_n _ _ _ _ _ _ _ _ _ _ _ 183 (zak rfl rfl rfl rfl) (Eq.refl (some 183)) ?_
                          refine @o_n _ _ _ _ _ _ _ _ _ _ _ 184 (zak rfl rfl rfl rfl) (Eq.refl (some 184)) ?_
                          refine @o_n _ _ _ _ _ _ _ _ _ _ _ 185 (zak rfl rfl rfl rfl) (Eq.refl (some 185)) ?_
                          refine @o_n _ _ _ _ _ _ _ _ _ _ _ 186 (za4 rfl rfl rfl (congrArg Value.bool hb129) rfl) (Eq.refl (some 186)) ?_
                          refine @o_n _ _ _ _ _ _ _ _ _ _ _ 187 (za4 rfl rfl rfl (congrArg Value.bool hb129) rfl) (Eq.refl (some 187)) ?_
                          refine @o_n _ _ _ _ _ _ _ _ _ _ _ 188 (zak rfl rfl rfl rfl) (Eq.refl (some 188)) ?_
                          refine @o_n _ _ _ _ _ _ _ _ _ _ _ 189 (zak rfl rfl rfl rfl) (Eq.refl (some 189)) ?_
                          refine @o_n _ _ _ _ _ _ _ _ _ _ _ 190 (zak rfl rfl rfl rfl) (Eq.refl (some 190)) ?_
                          refine @o_n _ _ _ _ _ _ _ _ _ _ _ 191 (zak rfl rfl rfl rfl) (Eq.refl (some 191)) ?_
                          refine @o_n _ _ _ _ _ _ _ _ _ _ _ 192 (zak rfl rfl rfl rfl) (Eq.refl (some 192)) ?_
                          refine @o_n _ _ _ _ _ _ _ _ _ _ _ 193 (za4 rfl rfl rfl (congrArg Value.bool hb129) rfl) (Eq.refl (some 193)) ?_
                          refine o_w (za5 rfl rfl rfl (congrArg Value.bool hb128)) rfl (zau true (congrArg Value.bool hb129) rfl) ?_
                          refine o_q rfl rfl (zau true (congrArg Value.bool hb128) rfl) ?_
                          refine o_q rfl rfl (q_asg rfl) ?_
                          refine o_end ?_
                          refine za1 ?_
                          refine c_ret ?_
                          have e0_ := Option.some.inj h; clear h
                          subst e0_
                          exact x_r1 () Try.results6 (zal rfl) rfl (fun w h => za6 [] (by decide) rfl w h)
                        · replace h := br_f hb129 h
                          refine o_w (za5 rfl rfl rfl (congrArg Value.bool hb129)) rfl (za2 rfl) ?_
                          refine o_w (za5 rfl rfl rfl (congrArg Value.bool hb129)) rfl (za2 rfl) ?_
                          refine byB b11 (fun hb130 => ?_) (fun hb130 => ?_)
                          · replace h := bb_t hb130 h
                            refine o_w (za5 rfl rfl rfl (congrArg Value.bool hb130)) rfl (za2 rfl) ?_
                            refine o_w (za5 rfl rfl rfl (congrArg Value.bool hb129)) rfl (zau true (congrArg Value.bool hb130) rfl) ?_
                            refine o_w (za5 rfl rfl rfl (congrArg Value.bool hb129)) rfl (za2 rfl) ?_
                            refine byB b37 (fun hb131 => ?_) (fun hb131 => ?_)
                            · replace h := bb_t hb131 h
                              refine o_w (za5 rfl rfl rfl (congrArg Value.bool hb131)) rfl (q_f F25_1 rfl) ?_
                              refine o_w (za5 rfl rfl rfl (congrArg Value.bool hb131)) rfl (q_ldb Y22 rfl (fun w h => h.zaj (i := 2) rfl) rfl) ?_
                              refine o_w (za5 rfl rfl rfl (congrArg Value.bool hb131)) rfl (q_len Try.underlying22 rfl) ?_
                              refine o_w (za5 rfl rfl rfl (congrArg Value.bool hb131)) rfl (za2 rfl) ?_
                              refine o_w (za5 rfl rfl rfl (congrArg Value.bool hb131)) rfl (q_eql rfl rfl) ?_
                              refine o_w (za5 rfl rfl rfl (congrArg Value.bool hb129)) rfl (zau true (congrArg Value.bool hb131) rfl) ?_
                              refine o_w (za5 rfl rfl rfl (congrArg Value.bool hb129)) rfl (za2 rfl) ?_
                              refine byB (decide ((l9.length : Int) = i124)) (fun hb132 => ?_) (fun hb132 => ?_)
                              · replace h := br_t hb132 h
                                refine o_w (za5 rfl rfl rfl (congrArg Value.bool hb132)) rfl (q_f F25_1 rfl) ?_
                                refine o_w (za5 rfl rfl rfl (congrArg Value.bool hb132)) rfl (q_ldb Y22 rfl (fun w h => h.zaj (i := 5) rfl) rfl) ?_
                                refine o_w (za5 rfl rfl rfl (congrArg Value.bool hb132)) rfl (q_len Try.underlying22 rfl) ?_
                                refine o_w (za5 rfl rfl rfl (congrArg Value.bool hb132)) rfl (za2 rfl) ?_
                                refine o_w (za5 rfl rfl rfl (congrArg Value.bool hb132)) rfl (q_eql rfl rfl) ?_
                                refine o_w (za5 rfl rfl rfl (congrArg Value.bool hb129)) rfl (zau true (congrArg Value.bool hb132) rfl) ?_
                                refine o_w (za5 rfl rfl rfl (congrArg Value.bool hb128)) rfl (zau false (congrArg Value.bool hb129) rfl) ?_
                                refine o_q rfl rfl (zau true (congrArg Value.bool hb128) rfl) ?_
                                refine o_q rfl rfl (q_asg rfl) ?_
                                refine o_end ?_
                                refine za1 ?_
                                refine c_ret ?_
                                have e0_ := Option.some.inj h; clear h
                                subst e0_
                                exact x_r1 () Try.results6 (zal rfl) rfl (fun w h => za6 [] (by decide) rfl w h)
                              · replace h := br_f hb132 h
                                refine @o_n _ _ _ _ _ _ _ _ _ _ _ 188 (za4 rfl rfl rfl (congrArg Value.bool hb132) rfl) (Eq.refl (some 188)) ?_
                                refine @o_n _ _ _ _ _ _ _ _ _ _ _ 189 (za4 rfl rfl rfl (congrArg Value.bool hb132) rfl) (Eq.refl (some 189)) ?_
                                refine @o_n _ _ _ _ _ _ _ _ _ _ _ 190 (za4 rfl rfl rfl (congrArg Value.bool hb132) rfl) (Eq.refl (some 190)) ?_
                                refine @o_n _ _ _ _ _ _ _ _ _ _ _ 191 (za4 rfl rfl rfl (congrArg Value.bool hb132) rfl) (Eq.refl (some 191)) ?_
                                refine @o_n _ _ _ _ _ _ _ _ _ _ _ 192 (za4 rfl rfl rfl (congrArg Value.bool hb132) rfl) (Eq.refl (some 192)) ?_
                                refine o_w (za5 rfl rfl rfl (congrArg Value.bool hb129)) rfl (zau false (congrArg Value.bool hb132) rfl) ?_
                                refine o_w (za5 rfl rfl rfl (congrArg Value.bool hb128)) rfl (zau false (congrArg Value.bool hb129) rfl) ?_
                                refine o_q rfl rfl (zau true (congrArg Value.bool hb128) rfl) ?_
                                refine o_q rfl rfl (q_asg rfl) ?_
                                refine o_end ?_
                                refine za1 ?_
                                refine c_ret ?_
                                have e0_ := Option.some.inj h; clear h
                                subst e0_
                                exact x_r1 () Try.results6 (zal rfl) rfl (fun w h => za6 [] (by decide) rfl w h)
                            · replace h := bb_f hb131 h
                              refine @o_n _ _ _ _ _ _ _ _ _ _ _ 181 (za4 rfl rfl rfl (congrArg Value.bool hb131) rfl) (Eq.refl (some 181)) ?_
                              refine @o_n _ _ _ _ _ _ _ _ _ _ _ 182 (za4 rfl rfl rfl (congrArg Value.bool hb131) rfl) (Eq.refl (some 182)) ?_
                              refine @o_n _ _ _ _ _ _ _ _ _ _ _ 183 (za4 rfl rfl rfl (congrArg Value.bool hb131) rfl) (Eq.refl (some 183)) ?_
                              refine @o_n _ _ _ _ _ _ _ _ _ _ _ 184 (za4 rfl rfl rfl (congrArg Value.bool hb131) rfl) (Eq.refl (some 184)) ?_
                              refine @o_n _ _ _ _ _ _ _ _ _ _ _ 185 (za4 rfl rfl rfl (congrArg Value.bool hb131) rfl) (Eq.refl (some 185)) ?_
                              refine o_w (za5 rfl rfl rfl (congrArg Value.bool hb129)) rfl (zau false (congrArg Value.bool hb131) rfl) ?_
                              refine o_w (za5 rfl rfl rfl (congrArg Value.bool hb129)) rfl (za2 rfl) ?_
                              refine @o_n _ _ _ _ _ _ _ _ _ _ _ 188 (za4 rfl rfl rfl rfl rfl) (Eq.refl (some 188)) ?_
                              refine @o_n _ _ _ _ _ _ _ _ _ _ _ 189 (za4 rfl rfl rfl rfl rfl) (Eq.refl (some 189)) ?_
                              refine @o_n _ _ _ _ _ _ _ _ _ _ _ 190 (za4 rfl rfl rfl rfl rfl) (Eq.refl (some 190)) ?_
                              refine @o_n _ _ _ _ _ _ _ _ _ _ _ 191 (za4 rfl rfl rfl rfl rfl) (Eq.refl (some 191)) ?_
                              refine @o_n _ _ _ _ _ _ _ _ _ _ _ 192 (za4 rfl rfl rfl rfl rfl) (Eq.refl (some 192)) ?_
                              refine o_w (za5 rfl rfl rfl (congrArg Value.bool hb129)) rfl (zau false rfl rfl) ?_
                              refine o_w (za5 rfl rfl rfl (congrArg Value.bool hb128)) rfl (zau false (congrArg Value.bool hb129) rfl) ?_
                              refine o_q rfl rfl (zau true (congrArg Value.bool hb128) rfl) ?_
                              refine o_q rfl rfl (q_asg rfl) ?_
                              refine o_end ?_
                              refine za1 ?_
                              refine c_ret ?_
                              have e0_ := Option.some.inj h; clear h
                              subst e0_
                              exact x_r1 () Try.results6 (zal rfl) rfl (fun w h => za6 [] (by decide) rfl w h)
                          · replace h := bb_f hb130 h
                            refine @o_n _ _ _ _ _ _ _ _ _ _ _ 178 (za4 rfl rfl rfl (congrArg Value.bool hb130) rfl) (Eq.refl (some 178)) ?_
                            refine o_w (za5 rfl rfl rfl (congrArg Value.bool hb129)) rfl (zau false (congrArg Value.bool hb130) rfl) ?_
                            refine o_w (za5 rfl rfl rfl (congrArg Value.bool hb129)) rfl (za2 rfl) ?_
                            refine @o_n _ _ _ _ _ _ _ _ _ _ _ 181 (za4 rfl rfl rfl rfl rfl) (Eq.refl (some 181)) ?_
                            refine @o_n _ _ _ _ _ _ _ _ _ _ _ 182 (za4 rfl rfl rfl rfl rfl) (Eq.refl (some 182)) ?_
                            refine @o_n _ _ _ _ _ _ _ _ _ _ _ 183 (za4 rfl rfl rfl rfl rfl) (Eq.refl (some 183)) ?_
                            refine @o_n _ _ _ _ _ _ _ _ _ _ _ 184 (za4 rfl rfl rfl rfl rfl) (Eq.refl (some 184)) ?_
                            refine @o_n _ _ _ _ _ _ _ _ _ _ _ 185 (za4 rfl rfl rfl rfl rfl) (Eq.refl (some 185)) ?_
                            refine o_w (za5 rfl rfl rfl (congrArg Value.bool hb129)) rfl (zau false rfl rfl) ?_
                            refine o_w (za5 rfl rfl rfl (congrArg Value.bool hb129)) rfl (za2 rfl) ?_
                            refine @o_n _ _ _ _ _ _ _ _ _ _ _ 188 (za4 rfl rfl rfl rfl rfl) (Eq.refl (some 188)) ?_
                            refine @o_n _ _ _ _ _ _ _ _ _ _ _ 189 (za4 rfl rfl rfl rfl rfl) (Eq.refl (some 189)) ?_
                            refine @o_n _ _ _ _ _ _ _ _ _ _ _ 190 (za4 rfl rfl rfl rfl rfl) (Eq.refl (some 190)) ?_
                            refine @o_n _ _ _ _ _ _ _ _ _ _ _ 191 (za4 rfl rfl rfl rfl rfl) (Eq.refl (some 191)) ?_
                            refine @o_n _ _ _ _ _ _ _ _ _ _ _ 192 (za4 rfl rfl rfl rfl rfl) (Eq.refl (some 192)) ?_
                            refine o_w (za5 rfl rfl rfl (congrArg Value.bool hb129)) rfl (zau false rfl rfl) ?_
                            refine o_w (za5 rfl rfl rfl (congrArg Value.bool hb128)) rfl (zau false (congrArg Value.bool hb129) rfl) ?_
                            refine o_q rfl rfl (zau true (congrArg Value.bool hb128) rfl) ?_
                            refine o_q rfl rfl (q_asg rfl) ?_
                            refine o_end ?_
                            refine za1 ?_
                            refine c_ret ?_
                            have e0_ := Option.some.inj h; clear h
                            subst e0_
                            exact x_r1 () Try.results6 (zal rfl) rfl (fun w h => za6 [] (by decide) rfl w h)
                      · replace h := br_f hb128 h
                        refine @o_n _ _ _ _ _ _ _ _ _ _ _ 173 (za4 rfl rfl rfl (congrArg Value.bool hb128) rfl) (Eq.refl (some 173)) ?_
                        refine @o_n _ _ _ _ _ _ _ _ _ _ _ 174 (za4 rfl rfl rfl (congrArg Value.bool hb128) rfl) (Eq.refl (some 174)) ?_
                        refine @o_n _ _ _ _ _ _ _ _ _ _ _ 175 (za4 rfl rfl rfl (congrArg Value.bool hb128) rfl) (Eq.refl (some 175)) ?_
                        refine @o_n _ _ _ _ _ _ _ _ _ _ _ 176 (zak rfl rfl rfl rfl) (Eq.refl (some 176)) ?_
                        refine @o_n _ _ _ _ _ _ _ _ _ _ _ 177 (zak rfl rfl rfl rfl) (Eq.refl (some 177)) ?_
                        refine @o_n _ _ _ _ _ _ _ _ _ _ _ 178 (zak rfl rfl rfl rfl) (Eq.refl (some 178)) ?_
                        refine @o_n _ _ _ _ _ _ _ _ _ _ _ 179 (zak rfl rfl rfl rfl) (Eq.refl (some 179)) ?_
                        refine @o_n _ _ _ _ _ _ _ _ _ _ _ 180 (zak rfl rfl rfl rfl) (Eq.refl (some 180)) ?_
                        refine @o_n _ _ _ _ _ _ _ _ _ _ _ 181 (zak rfl rfl rfl rfl) (Eq.refl (some 181)) ?_
                        refine @o_n _ _ _ _ _ _ _ _ _ _ _ 182 (zak rfl rfl rfl rfl) (Eq.refl (some 182)) ?_
                        refine @o_n _ _ _ _ _ _ _ _ _ _ _ 183 (zak rfl rfl rfl rfl) (Eq.refl (some 183)) ?_
                        refine @o_n _ _ _ _ _ _ _ _ _ _ _ 184 (zak rfl rfl rfl rfl) (Eq.refl (some 184)) ?_
                        refine @o_n _ _ _ _ _ _ _ _ _ _ _ 185 (zak rfl rfl rfl rfl) (Eq.refl (some 185)) ?_
                        refine @o_n _ _ _ _ _ _ _ _ _ _ _ 186 (zak rfl rfl rfl rfl) (Eq.refl (some 186)) ?_
                        refine @o_n _ _ _ _ _ _ _ _ _ _ _ 187 (zak rfl rfl rfl rfl) (Eq.refl (some 187)) ?_
                        refine @o_n _ _ _ _ _ _ _ _ _ _ _ 188 (zak rfl rfl rfl rfl) (Eq.refl (some 188)) ?_
                        refine @o_n _ _ _ _ _ _ _ _ _ _ _ 189 (zak rfl rfl rfl rfl) (Eq.refl (some 189)) ?_
                        refine @o_n _ _ _ _ _ _ _ _ _ _ _ 190 (zak rfl rfl rfl rfl) (Eq.refl (some 190)) ?_
                        refine @o_n _ _ _ _ _ _ _ _ _ _ _ 191 (zak rfl rfl rfl rfl) (Eq.refl (some 191)) ?_
                        refine @o_n _ _ _ _ _ _ _ _ _ _ _ 192 (zak rfl rfl rfl rfl) (Eq.refl (some 192)) ?_
                        refine @o_n _ _ _ _ _ _ _ _ _ _ _ 193 (zak rfl rfl rfl rfl) (Eq.refl (some 193)) ?_
                        refine @o_n _ _ _ _ _ _ _ _ _ _ _ 194 (za4 rfl rfl rfl (congrArg Value.bool hb128) rfl) (Eq.refl (some 194)) ?_
                        refine o_q rfl rfl (zau false (congrArg Value.bool hb128) rfl) ?_
                        refine o_q rfl rfl (q_asg rfl) ?_
                        refine o_end ?_
                        refine za1 ?_
                        refine c_ret ?_
                        have e0_ := Option.some.inj h; clear h
                        subst e0_
                        exact x_r1 () Try.results6 (zal rfl) rfl (fun w h => za6 [] (by decide) rfl w h)
                    · replace h := bb_f hb127 h
                      refine @o_n _ _ _ _ _ _ _ _ _ _ _ 168 (za4 rfl rfl rfl (congrArg Value.bool hb127) rfl) (Eq.refl (some 168)) ?_
                      refine @o_n _ _ _ _ _ _ _ _ _ _ _ 169 (za4 rfl rfl rfl (congrArg Value.bool hb127) rfl) (Eq.refl (some 169)) ?_
                      refine @o_n _ _ _ _ _ _ _ _ _ _ _ 170 (za4 rfl rfl rfl (congrArg Value.bool hb127) rfl) (Eq.refl (some 170)) ?_
                      refine o_q rfl rfl (zau false (congrArg Value.bool hb127) rfl) ?_
                      refine o_q rfl rfl (za2 rfl) ?_
                      refine @o_n _ _ _ _ _ _ _ _ _ _ _ 173 (za4 rfl rfl rfl rfl rfl) (Eq.refl (some 173)) ?_
                      refine @o_n _ _ _ _ _ _ _ _ _ _ _ 174 (za4 rfl rfl rfl rfl rfl) (Eq.refl (some 174)) ?_
                      refine @o_n _ _ _ _ _ _ _ _ _ _ _ 175 (za4 rfl rfl rfl rfl rfl) (Eq.refl (some 175)) ?_
                      refine @o_n _ _ _ _ _ _ _ _ _ _ _ 176 (zak rfl rfl rfl rfl) (Eq.refl (some 176)) ?_
                      refine @o_n _ _ _ _ _ _ _ _ _ _ _ 177 (zak rfl rfl rfl rfl) (Eq.refl (some 177)) ?_
                      refine @o_n _ _ _ _ _ _ _ _ _ _ _ 178 (zak rfl rfl rfl rfl) (Eq.refl (some 178)) ?_
                      refine @o_n _ _ _ _ _ _ _ _ _ _ _ 179 (zak rfl rfl rfl rfl) (Eq.refl (some 179)) ?_
                      refine @o_n _ _ _ _ _ _ _ _ _ _ _ 180 (zak rfl rfl rfl rfl) (Eq.refl (some 180)) ?_
                      refine @o_n _ _ _ _ _ _ _ _ _ _ _ 181 (zak rfl rfl rfl rfl) (Eq.refl (some 181)) ?_
                      refine @o_n _ _ _ _ _ _ _ _ _ _ _ 182 (zak rfl rfl rfl rfl) (Eq.refl (some 182)) ?_
                      refine @o_n _ _ _ _ _ _ _ _ _ _ _ 183 (zak rfl rfl rfl rfl) (Eq.refl (some 183)) ?_
                      refine @o_n _ _ _ _ _ _ _ _ _ _ _ 184 (zak rfl rfl rfl rfl) (Eq.refl (some 184)) ?_
                      refine @o_n _ _ _ _ _ _ _ _ _ _ _ 185 (zak rfl rfl rfl rfl) (Eq.refl (some 185)) ?_
                      refine @o_n _ _ _ _ _ _ _ _ _ _ _ 186 (zak rfl rfl rfl rfl) (Eq.refl (some 186)) ?_
                      refine @o_n _ _ _ _ _ _ _ _ _ _ _ 187 (zak rfl rfl rfl rfl) (Eq.refl (some 187)) ?_
                      refine @o_n _ _ _ _ _ _ _ _ _ _ _ 188 (zak rfl rfl rfl rfl) (Eq.refl (some 188)) ?_
                      refine @o_n _ _ _ _ _ _ _ _ _ _ _ 189 (zak rfl rfl rfl rfl) (Eq.refl (some 189)) ?_
                      refine @o_n _ _ _ _ _ _ _ _ _ _ _ 190 (zak rfl rfl rfl rfl) (Eq.refl (some 190)) ?_
                      refine @o_n _ _ _ _ _ _ _ _ _ _ _ 191 (zak rfl rfl rfl rfl) (Eq.refl (some 191)) ?_
                      refine @o_n _ _ _ _ _ _ _ _ _ _ _ 192 (zak rfl rfl rfl rfl) (Eq.refl (some 192)) ?_
                      refine @o_n _ _ _ _ _ _ _ _ _ _ _ 193 (zak rfl rfl rfl rfl) (Eq.refl (some 193)) ?_
                      refine @o_n _ _ _ _ _ _ _ _ _ _ _ 194 (za4 rfl rfl rfl rfl rfl) (Eq.refl (some 194)) ?_
                      refine o_q rfl rfl (zau false rfl rfl) ?_
                      refine o_q rfl rfl (q_asg rfl) ?_
                      refine o_end ?_
                      refine za1 ?_
                      refine c_ret ?_
                      have e0_ := Option.some.inj h; clear h
                      subst e0_
                      exact x_r1 () Try.results6 (zal rfl) rfl (fun w h => za6 [] (by decide) rfl w h)
                  · replace h := bb_f hb126 h
                    refine @o_n _ _ _ _ _ _ _ _ _ _ _ 165 (za4 rfl rfl rfl (congrArg Value.bool hb126) rfl) (Eq.refl (some 165)) ?_
                    refine o_q rfl rfl (zau false (congrArg Value.bool hb126) rfl) ?_
                    refine o_q rfl rfl (za2 rfl) ?_
                    refine @o_n _ _ _ _ _ _ _ _ _ _ _ 168 (za4 rfl rfl rfl rfl rfl) (Eq.refl (some 168)) ?_
                    refine @o_n _ _ _ _ _ _ _ _ _ _ _ 169 (za4 rfl rfl rfl rfl rfl) (Eq.refl (some 169)) ?_
                    refine @o_n _ _ _ _ _ _ _ _ _ _ _ 170 (za4 rfl rfl rfl rfl rfl) (Eq.refl (some 170)) ?_
                    refine o_q rfl rfl (zau false rfl rfl) ?_
                    refine o_q rfl rfl (za2 rfl) ?_
                    refine @o_n _ _ _ _ _ _ _ _ _ _ _ 173 (za4 rfl rfl rfl rfl rfl) (Eq.refl (some 173)) ?_
                    refine @o_n _ _ _ _ _ _ _ _ _ _ _ 174 (za4 rfl rfl rfl rfl rfl) (Eq.refl (some 174)) ?_
                    refine @o_n _ _ _ _ _ _ _ _ _ _ _ 175 (za4 rfl rfl rfl rfl rfl) (Eq.refl (some 175)) ?_
                    refine @o_n _ _ _ _ _ _ _ _ _ _ _ 176 (zak rfl rfl rfl rfl) (Eq.refl (some 176)) ?_
                    refine @o_n _ _ _ _ _ _ _ _ _ _ _ 177 (zak rfl rfl rfl rfl) (Eq.refl (some 177)) ?_
                    refine @o_n _ _ _ _ _ _ _ _ _ _ _ 178 (zak rfl rfl rfl rfl) (Eq.refl (some 178)) ?_
                    refine @o_n _ _ _ _ _ _ _ _ _ _ _ 179 (zak rfl rfl rfl rfl) (Eq.refl (some 179)) ?_
                    refine @o_n _ _ _ _ _ _ _ _ _ _ _ 180 (zak rfl rfl rfl rfl) (Eq.refl (some 180)) ?_
                    refine @o_n _ _ _ _ _ _ _ _ _ _ _ 181 (zak rfl rfl rfl rfl) (Eq.refl (some 181)) ?_
                    refine @o_n _ _ _ _ _ _ _ _ _ _ _ 182 (zak rfl rfl rfl rfl) (Eq.refl (some 182)) ?_
                    refine @o_n _ _ _ _ _ _ _ _ _ _ _ 183 (zak rfl rfl rfl rfl) (Eq.refl (some 183)) ?_
                    refine @o_n _ _ _ _ _ _ _ _ _ _ _ 184 (zak rfl rfl rfl rfl) (Eq.refl (some 184)) ?_
                    refine @o_n _ _ _ _ _ _ _ _ _ _ _ 185 (zak rfl rfl rfl rfl) (Eq.refl (some 185)) ?_
                    refine @o_n _ _ _ _ _ _ _ _ _ _ _ 186 (zak rfl rfl rfl rfl) (Eq.refl (some 186)) ?_
                    refine @o_n _ _ _ _ _ _ _ _ _ _ _ 187 (zak rfl rfl rfl rfl) (Eq.refl (some 187)) ?_
                    refine @o_n _ _ _ _ _ _ _ _ _ _ _ 188 (zak rfl rfl rfl rfl) (Eq.refl (some 188)) ?_
                    refine @o_n _ _ _ _ _ _ _ _ _ _ _ 189 (zak rfl rfl rfl rfl) (Eq.refl (some 189)) ?_
                    refine @o_n _ _ _ _ _ _ _ _ _ _ _ 190 (zak rfl rfl rfl rfl) (Eq.refl (some 190)) ?_
                    refine @o_n _ _ _ _ _ _ _ _ _ _ _ 191 (zak rfl rfl rfl rfl) (Eq.refl (some 191)) ?_
                    refine @o_n _ _ _ _ _ _ _ _ _ _ _ 192 (zak rfl rfl rfl rfl) (Eq.refl (some 192)) ?_
                    refine @o_n _ _ _ _ _ _ _ _ _ _ _ 193 (zak rfl rfl rfl rfl) (Eq.refl (some 193)) ?_
                    refine @o_n _ _ _ _ _ _ _ _ _ _ _ 194 (za4 rfl rfl rfl rfl rfl) (Eq.refl (some 194)) ?_
                    refine o_q rfl rfl (zau false rfl rfl) ?_
                    refine o_q rfl rfl (q_asg rfl) ?_
                    refine o_end ?_
                    refine za1 ?_
                    refine c_ret ?_
                    have e0_ := Option.some.inj h; clear h
                    subst e0_
                    exact x_r1 () Try.results6 (zal rfl) rfl (fun w h => za6 [] (by decide) rfl w h)
                · skip
                  clear hl116
                  have hr113 := hJ_.1; have hk119 := hJ_.2.1; have h := hJ_.2.2; clear hJ_
                  replace h : laws_FnWindowsMakePlans.l0 i6 (y110 :: ys111) i108 i109 = some o117 := h
                  rw [laws_FnWindowsMakePlans.l0] at h
                  refine c_seq ?_
                  refine za0 ?_
                  refine o_q rfl rfl (q_lss rfl rfl) ?_
                  refine o_end ?_
                  refine za1 ?_
                  refine c_seq ?_
                  refine c_true (congrArg Value.bool hr113.lt) ?_
                  refine zat ?_
                  refine za1 ?_
                  refine c_seq ?_
                  refine zaq ?_
                  refine c_seq ?_
                  refine za0 ?_
                  refine zb4 (p := Sh A95 l93.length l93.length) (fun w h => f_sh (dk := (Kd.int .i64)) h (fun w h => h.zaw (i := 1) rfl)) (fun hq133 => ?_)
                  refine o_q rfl rfl (q_ix Try.underlying23 Z3 rfl rfl hq133 hr113.get) ?_
                  refine o_q rfl rfl (q_lde (off := 0) Y3 rfl rfl (fun w h => h.zaw (i := 1) rfl) hr113.get (fun _ _ h => h) rfl) ?_
                  refine o_q rfl rfl (q_asg rfl) ?_
                  refine o_end ?_
                  refine za1 ?_
                  refine c_seq ?_
                  refine za0 ?_
                  refine o_q rfl rfl (za2 rfl) ?_
                  refine bindE2 h (fun i135 b136 hx134 h => ?_) rfl
                  refine o_e rfl (za8 0 Z Try.func29 N29 rfl rfl rfl (fun w P1 hF hB hS hT => impl_DigitSum.calls y110 hB hF _ _ hx134)) (fun _ => ?_)
                  refine o_q rfl rfl (za2 rfl) ?_
                  refine o_q rfl rfl (q_ext rfl rfl) ?_
                  refine o_q rfl rfl (q_ext rfl rfl) ?_
                  refine o_q rfl rfl (q_asg rfl) ?_
                  refine o_q rfl rfl (q_asg rfl) ?_
                  refine o_end ?_
                  refine za1 ?_
                  refine c_seq ?_
                  refine c_seq ?_
                  refine za0 ?_
                  refine o_q rfl rfl (za2 rfl) ?_
                  refine o_q rfl rfl (q_not rfl) ?_
                  refine o_q rfl rfl (za2 rfl) ?_
                  refine byB b136 (fun hb137 => ?_) (fun hb137 => ?_)
                  · replace h := bb_t hb137 h
                    refine o_w (za5 rfl rfl rfl (congrArg (fun b => Value.bool (!(b))) hb137)) rfl (za2 rfl) ?_
                    refine o_w (za5 rfl rfl rfl (congrArg (fun b => Value.bool (!(b))) hb137)) rfl (q_rem rfl rfl (by decide)) ?_
                    refine o_w (za5 rfl rfl rfl (congrArg (fun b => Value.bool (!(b))) hb137)) rfl (q_eql rfl rfl) ?_
                    refine o_q rfl rfl (zau false (congrArg (fun b => Value.bool (!(b))) hb137) rfl) ?_
                    refine o_q rfl rfl (za2 rfl) ?_
                    refine byB (decide (y110.tmod 2 = 0)) (fun hb138 => ?_) (fun hb138 => ?_)
                    · replace h := br_t hb138 h
                      refine @o_n _ _ _ _ _ _ _ _ _ _ _ 144 (za4 rfl rfl rfl (congrArg Value.bool hb138) rfl) (Eq.refl (some 144)) ?_
                      refine @o_n _ _ _ _ _ _ _ _ _ _ _ 145 (za4 rfl rfl rfl (congrArg Value.bool hb138) rfl) (Eq.refl (some 145)) ?_
                      refine @o_n _ _ _ _ _ _ _ _ _ _ _ 146 (za4 rfl rfl rfl (congrArg Value.bool hb138) rfl) (Eq.refl (some 146)) ?_
                      refine @o_n _ _ _ _ _ _ _ _ _ _ _ 147 (za4 rfl rfl rfl (congrArg Value.bool hb138) rfl) (Eq.refl (some 147)) ?_
                      refine o_q rfl rfl (zau true (congrArg Value.bool hb138) rfl) ?_
                      refine o_end ?_
                      refine za1 ?_
                      refine c_true rfl ?_
                      refine c_seq ?_
                      refine za0 ?_
                      refine o_q rfl rfl (q_asg rfl) ?_
                      refine o_end ?_
                      refine za1 ?_
                      refine c_ret ?_
                      refine zai ?_
                      refine zax ?_
                      refine zai ?_
                      refine zai ?_
                      have e_ := Option.some.inj h; replace h := hR115; rw [← e_] at h; clear e_
                      refine zax ?_
                      refine zai ?_
                      have e0_ := Option.some.inj h; clear h
                      subst e0_
                      exact x_r1 () Try.results6 (zal rfl) rfl (fun w h => za6 [] (by decide) rfl w h)
                    · replace h := br_f hb138 h
                      refine o_w (za5 rfl rfl rfl (congrArg Value.bool hb138)) rfl (za2 rfl) ?_
                      refine o_w (za5 rfl rfl rfl (congrArg Value.bool hb138)) rfl (za2 rfl) ?_
                      refine zab h (fun _ hz139 h => ?_) rfl
                      refine o_w (za5 rfl rfl rfl (congrArg Value.bool hb138)) rfl (q_shl rfl rfl (nn_le hz139)) ?_
                      refine o_w (za5 rfl rfl rfl (congrArg Value.bool hb138)) rfl (q_geq rfl rfl) ?_
                      refine o_q rfl rfl (zau false (congrArg Value.bool hb138) rfl) ?_
                      refine o_end ?_
                      refine za1 ?_
                      refine zb0 _ rfl (fun hb140 => ?_) (fun hb140 => ?_)
                      · skip
                        replace h := br_t hb140 h
                        refine c_seq ?_
                        refine za0 ?_
                        refine o_q rfl rfl (q_asg rfl) ?_
                        refine o_end ?_
                        refine za1 ?_
                        refine c_ret ?_
                        refine zai ?_
                        refine zax ?_
                        refine zai ?_
                        refine zai ?_
                        have e_ := Option.some.inj h; replace h := hR115; rw [← e_] at h; clear e_
                        refine zax ?_
                        refine zai ?_
                        have e0_ := Option.some.inj h; clear h
                        subst e0_
                        exact x_r1 () Try.results6 (zal rfl) rfl (fun w h => za6 [] (by decide) rfl w h)
                      · skip
                        replace h := br_f hb140 h
                        refine zat ?_
                        refine za1 ?_
                        refine za0 ?_
                        refine o_q rfl rfl (za2 rfl) ?_
                        refine o_q rfl rfl (za2 rfl) ?_
                        refine o_q rfl rfl (zb7 rfl rfl) ?_
                        refine o_q rfl rfl (q_asg rfl) ?_
                        refine o_end ?_
                        refine zas ?_
                        refine za1 ?_
                        refine za0 ?_
                        refine o_q rfl rfl (q_up rfl rfl (hr113.up hm114)) ?_
                        refine o_q rfl rfl (za2 rfl) ?_
                        refine o_end ?_
                        refine zar ys111.length (ys111, i108 + 1, w64 (i109 + i135)) (by rw [← hk119]; exact Nat.lt_succ_self _) ⟨hr113.step, rfl, h⟩ ⟨rfl, rfl, trivial⟩ (fun w h => za6 [0, 1, 2, 3, 4, 5, 6, 7, 8, 9, 10, 11, 12, 13] (by decide) rfl w h) ?_
                        repeat (first | exact za9 _ _ | refine zae rfl ?_ | refine zaa rfl ?_ | refine zaf rfl ?_)
                  · replace h := bb_f hb137 h
                    refine @o_n _ _ _ _ _ _ _ _ _ _ _ 139 (za4 rfl rfl rfl (congrArg (fun b => Value.bool (!(b))) hb137) rfl) (Eq.refl (some 139)) ?_
                    refine @o_n _ _ _ _ _ _ _ _ _ _ _ 140 (za4 rfl rfl rfl (congrArg (fun b => Value.bool (!(b))) hb137) rfl) (Eq.refl (some 140)) ?_
                    refine @o_n _ _ _ _ _ _ _ _ _ _ _ 141 (za4 rfl rfl rfl (congrArg (fun b => Value.bool (!(b))) hb137) rfl) (Eq.refl (some 141)) ?_
                    refine o_q rfl rfl (zau true (congrArg (fun b => Value.bool (!(b))) hb137) rfl) ?_
                    refine o_q rfl rfl (za2 rfl) ?_
                    refine @o_n _ _ _ _ _ _ _ _ _ _ _ 144 (za4 rfl rfl rfl rfl rfl) (Eq.refl (some 144)) ?_
                    refine @o_n _ _ _ _ _ _ _ _ _ _ _ 145 (za4 rfl rfl rfl rfl rfl) (Eq.refl (some 145)) ?_
                    refine @o_n _ _ _ _ _ _ _ _ _ _ _ 146 (za4 rfl rfl rfl rfl rfl) (Eq.refl (some 146)) ?_
                    refine @o_n _ _ _ _ _ _ _ _ _ _ _ 147 (za4 rfl rfl rfl rfl rfl) (Eq.refl (some 147)) ?_
                    refine o_q rfl rfl (zau true rfl rfl) ?_
                    refine o_end ?_
                    refine za1 ?_
                    refine c_true rfl ?_
                    refine c_seq ?_
                    refine za0 ?_
                    refine o_q rfl rfl (q_asg rfl) ?_
                    refine o_end ?_
                    refine za1 ?_
                    refine c_ret ?_
                    refine zai ?_
                    refine zax ?_
                    refine zai ?_
                    refine zai ?_
                    have e_ := Option.some.inj h; replace h := hR115; rw [← e_] at h; clear e_
                    refine zax ?_
                    refine zai ?_
                    have e0_ := Option.some.inj h; clear h
                    subst e0_
                    exact x_r1 () Try.results6 (zal rfl) rfl (fun w h => za6 [] (by decide) rfl w h)

end Go.Proofs.Ytiaohjciddbpoaa.H3
