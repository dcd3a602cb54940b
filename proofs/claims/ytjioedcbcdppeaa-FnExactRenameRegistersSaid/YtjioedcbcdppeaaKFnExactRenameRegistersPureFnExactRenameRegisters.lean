/- Pure: registers renamed, on both sides; the law. -/
import Derived.Test.YtjioedcbcdppeaaKFnExactRenameRegistersPcf
import Derived.Test.YtjioedcbcdppeaaKFnExactRenameRegistersPcode
import Derived.Test.YtjioedcbcdppeaaKFnExactRenameRegistersPorder
set_option linter.unusedVariables false
set_option linter.unusedSimpArgs false
namespace Go.Proofs.Ytjioedcbcdppeaa.Pure
open Go.RowKit Go.Proofs.Ytjioedcbcdppeaa.E Go.Proofs.Ytjioedcbcdppeaa.RS Go.Proofs.Ytjioedcbcdppeaa.Frame Go.Proofs.YtjioedcbcdppeaaW.PrintLast Go.Proofs.YtjioedcbcdppeaaW.PrintMore
open Go.Proofs.YtjioedcbcdppeaaW.PrintWords hiding mn mx
theorem nodup_l0 (l : List Int) : ∀ (d j : Nat), j + d = l.length → (l.take j).Nodup → spec_RenameRegisters.l0 l (l.drop j) (j : Int) = some (if l.Nodup then Sum.inr () else Sum.inl (0, [], [], [], false)) := by
  intro d
  induction d with
  | zero =>
    intro j hj hn
    rw [List.drop_eq_nil_of_le (by omega)]
    rw [List.take_of_length_le (by omega)] at hn
    rw [if_pos hn]
    rfl
  | succ d ih =>
    intro j hj hn
    have hjl : j < l.length := by omega
    rw [List.drop_eq_getElem_cons hjl]
    simp only [spec_RenameRegisters.l0]
    rw [ct_take l j (by omega), Option.bind_some, l1Has_eq, Option.bind_some]
    have ht : l.take (j + 1) = l.take j ++ [l[j]] := by rw [List.take_add_one, List.getElem?_eq_getElem hjl]; rfl
    by_cases c : l[j] ∈ l.take j
    · rw [if_pos (decide_eq_true c), if_neg]
      intro hnd
      have := List.Nodup.sublist (List.take_sublist (j + 1) l) hnd
      rw [ht, List.nodup_append] at this
      exact this.2.2 l[j] c l[j] List.mem_cons_self rfl
    · rw [if_neg (by simpa using c), show (j : Int) + 1 = ((j + 1 : Nat) : Int) by omega]
      refine ih (j + 1) (by omega) ?_
      rw [ht, List.nodup_append]
      refine ⟨hn, by simp, fun a ha b hb => ?_⟩
      rw [List.mem_singleton.1 hb]
      exact fun e => c (by rw [← e]; exact ha)
theorem ren_both (a : Int) (l1 : List Int) (l2 : List SRegOp) (l3 l : List Int) (hl : l.length ≤ 100000000) : ∃ i r1 r2 r3 b, Ev (fun k => spec_RenameRegisters.f k a l1 l2 l3 l) (i, r1, r2, r3, b) ∧ Ev (fun k => impl_RenameRegisters.f k a l1 l2 l3 l) (i, r1, r2, r3, b) ∧ r1.length ≤ 100 ∧ r2.length ≤ 100 ∧ r3.length ≤ 100 := by
  have e1 := reCode_ev a l1 l2 l3
  have e2 := isRegCode_ev a l1 l2 l3
  unfold spec_RenameRegisters.f impl_RenameRegisters.f
  cases hc : codeP a l1 l2 l3 with
  | none =>
    rw [hc] at e1 e2
    exact ⟨0, [], [], [], false, bind (a := true) (bind e1 (neg (by simp) (ret _))) (pos rfl (ret _)), bind (a := true) (bind e2 (neg (by simp) (ret _))) (pos rfl (ret _)), by simp, by simp, by simp⟩
  | some so =>
    rw [hc] at e1 e2
    obtain ⟨s, o⟩ := so
    obtain ⟨n, rfl, hok, hf⟩ := codeP_ok hc
    have hr := hok.reg
    have q1 := hok.len1
    have q2 := hok.len2
    have q3 := hok.len3
    have hio := isOrder_eq l n (by omega) hl
    have hno : Ev (fun k => ((impl_IsRegCode.f k (n : Int) l1 l2 l3).bind fun b17 => if b17 = true then ((impl_isOrder.f l (n : Int)).bind fun b20 => some (!b20)) else (some true))) (!decide (IsO n l)) := bind e2 (pos rfl (bind0 hio (ret _)))
    by_cases hO : IsO n l
    · rw [decide_eq_true hO] at hno
      obtain ⟨o1, o2, o3⟩ := hO
      obtain ⟨c1, c2⟩ := called_eq hok l o1 (n : Int) (n : Int)
      have hall : aB 0 (w64 ((n : Int) - 1)) l = true := by
        unfold aB
        rw [w64_id (by omega)]
        exact List.all_eq_true.2 fun x hx => decide_eq_true (by have := o2 x hx; omega)
      have hnd := nodup_l0 l l.length 0 (by omega) (by simp)
      rw [List.drop_zero, if_pos o3, show ((0 : Nat) : Int) = 0 from rfl] at hnd
      exact ⟨_, _, _, _, _, bind (a := false) (bind e1 (pos rfl (neg (by omega) (bind0 (by rw [l1All_eq, hall]) (ret _))))) (neg (by simp) (bind0 hnd (bind0 c2 (ret _)))), bind hno (neg (by simp) (bind0 c1 (ret _))), by simp; omega, by simp; omega, by simp; omega⟩
    · rw [decide_eq_false hO] at hno
      refine ⟨0, [], [], [], false, ?_, bind hno (pos rfl (ret _)), by simp, by simp, by simp⟩
      by_cases h1 : l.length = n
      · cases hall : aB 0 (w64 ((n : Int) - 1)) l with
        | false => exact bind (a := true) (bind e1 (pos rfl (neg (by omega) (bind0 (by rw [l1All_eq, hall]) (ret _))))) (pos rfl (ret _))
        | true =>
          have hnd := nodup_l0 l l.length 0 (by omega) (by simp)
          have : ¬ l.Nodup := fun h3 => hO ⟨h1, fun x hx => by
            have := of_decide_eq_true (List.all_eq_true.1 hall x hx)
            rw [w64_id (by omega)] at this
            omega, h3⟩
          rw [List.drop_zero, if_neg this, show ((0 : Nat) : Int) = 0 from rfl] at hnd
          exact bind (a := false) (bind e1 (pos rfl (neg (by omega) (bind0 (by rw [l1All_eq, hall]) (ret _))))) (neg (by simp) (bind0 hnd (ret _)))
      · exact bind (a := true) (bind e1 (pos rfl (pos (by omega) (ret _)))) (pos rfl (ret _))
set_option maxHeartbeats 4000000 in
theorem FnExactRenameRegisters : laws_FnExactRenameRegisters.Pure := by
  intro a l1 l2 l3 l _ h1 _ h2 _ h3 _ h4 _
  refine some_of ?_
  unfold laws_FnExactRenameRegisters.f
  by_cases c0 : 1048576 < (l.length : Int)
  · exact pos c0 (ret _)
  refine neg c0 ?_
  obtain ⟨v, e1, e2⟩ := szCode_eq a l1 l2 l3 h1 h2 h3
  refine bind0 e1 ?_
  by_cases c : v < 0
  · exact pos c (ret _)
  · refine neg c ?_
    obtain ⟨k1, k2, k3⟩ := e2 (by omega)
    have ht := toCode_ev a l1 l2 l3 (by omega) (by omega) (by omega)
    have hti := toIntS_ev l (by omega)
    have hqc := eqCode_refl a l1 l2 l3 (by omega) (by omega) (by omega)
    have hqi := eqIntS_refl l (by omega)
    have hmc := markCode_ev a l1 l2 l3 1 (by omega) (by omega)
    have hmi := markIntS_ev l (1 + l1.length + 3 * l2.length + l3.length) (by omega) (by omega)
    obtain ⟨i, r1, r2, r3, b, b1, b2, b3, b4, b5⟩ := ren_both a l1 l2 l3 l (by omega)
    have he := eqCode_refl i r1 r2 r3 (by omega) (by omega) (by omega)
    have hk := markCode_ev i r1 r2 r3 1 (by omega) (by omega)
    have hh := heldCode_ev i r1.length r2.length r3.length 1 (by omega) (by omega)
    have hb : (b != b) = false := by cases b <;> rfl
    refine bind ht (bind hti (bind b1 (bind ht (bind hti (bind b2 (bind he (pos rfl ?_)))))))
    simp only [hb]
    refine neg (by simp) (bind ht (bind hqc (pos rfl (bind hti (bind hqi (pos rfl (bind hmc (bind hmi (neg (by omega) (bind he (pos rfl (bind hk (bind hh (neg (by omega) (neg (by simp) (bind ht (bind hti (bind b2 (bind he (pos rfl ?_))))))))))))))))))))
    simp only [hb]
    exact neg (by simp) (bind hh (neg (by omega) (neg (by simp) (ret _))))
end Go.Proofs.Ytjioedcbcdppeaa.Pure
