/- Pure: laws' arguments: their sizes, their copies; lists searched. -/
import Derived.Test.YtnnlfipcoahcnaaDoorKFnExactPlanTextPgood2
set_option linter.unusedVariables false
set_option linter.unusedSimpArgs false
namespace Go.Proofs.YtnnlfipcoahcnaaDoor.Pure
open Go.RowKit Go.Proofs.YtnnlfipcoahcnaaDoor.E Go.Proofs.YtnnlfipcoahcnaaDoor.P1 Go.Proofs.YtnnlfipcoahcnaaDoor.Frame Go.Proofs.YtnnlfipcoahcnaaDoorW.PrintLast Go.Proofs.YtnnlfipcoahcnaaDoorW.PrintMore
open Go.Proofs.YtnnlfipcoahcnaaDoorW.PrintWords hiding mn mx
theorem szPlan_eq (i : Int) (s : List SStep) (o : List Int) (hs : s.length ≤ maxLen) (ho : o.length ≤ maxLen) : ∃ v, laws_szPlan.f i s o 1048576 = some v ∧ (0 ≤ v → s.length ≤ 1048576 ∧ o.length ≤ 1048576) := by
  have h1 : s.length ≤ 9223372036854775807 := hs
  have h2 : o.length ≤ 9223372036854775807 := ho
  unfold laws_szPlan.f laws_szStepS.f laws_szIntS.f
  rw [w64_id (by omega)]
  by_cases c1 : (1048576 - (s.length : Int)) < 0
  · rw [if_pos c1]
    exact ⟨-1, rfl, fun h => by omega⟩
  · rw [if_neg c1, Option.bind_some, if_neg c1, w64_id (by omega)]
    by_cases c2 : (1048576 - (s.length : Int) - (o.length : Int)) < 0
    · rw [if_pos c2]
      exact ⟨-1, rfl, fun h => by omega⟩
    · rw [if_neg c2, Option.bind_some, if_neg c2]
      exact ⟨_, rfl, fun h => by omega⟩
theorem toIntS_ev (l : List Int) (hl : l.length < 1000000000) : Ev (fun k => laws_toIntS.f k l) l := by
  have hm : (List.replicate l.length (0 : Int)).length = l.length := by simp
  have key : ∀ (d j : Nat), j + d = l.length → Ev (fun k => laws_toIntS.l0 l k (l.take j ++ (List.replicate l.length (0 : Int)).drop j) (j : Int)) l := by
    intro d
    induction d with
    | zero =>
      intro j hj
      obtain rfl : j = l.length := by omega
      refine shift ?_
      simp only [laws_toIntS.l0]
      rw [List.drop_eq_nil_of_le (by simp), List.append_nil, List.take_of_length_le (Nat.le_refl _)]
      exact neg (by omega) (ret _)
    | succ d ih =>
      intro j hj
      refine shift ?_
      simp only [laws_toIntS.l0]
      refine pos (by omega) ?_
      have hx : j < (l.take j ++ (List.replicate l.length (0 : Int)).drop j).length := by rw [List.length_append, List.length_take, List.length_drop, hm]; omega
      rw [gt_nat (show j < l.length by omega), gt_nat hx, w64_succ (by omega)]
      simp only [Option.bind_some]
      rw [st_nat hx, set_take (v := l[j]) (by omega) hm.symm (List.getElem?_eq_getElem (by omega))]
      exact ih (j + 1) (by omega)
  unfold laws_toIntS.f
  have := key l.length 0 (by omega)
  simp only [List.take_zero, List.drop_zero, List.nil_append, Int.natCast_zero] at this
  have hk : mk0 (l.length : Int) (0 : Int) = some (List.replicate l.length 0) := by
    unfold mk0
    rw [if_pos (by omega), Int.toNat_natCast]
  exact bind0 hk (bind this (ret _))
theorem toStepS_ev (l : List SStep) (hl : l.length < 1000000000) : Ev (fun k => laws_toStepS.f k l) l := by
  have hm : (List.replicate l.length (⟨0, 0⟩ : SStep)).length = l.length := by simp
  have key : ∀ (d j : Nat), j + d = l.length → Ev (fun k => laws_toStepS.l0 l k (l.take j ++ (List.replicate l.length (⟨0, 0⟩ : SStep)).drop j) (j : Int)) l := by
    intro d
    induction d with
    | zero =>
      intro j hj
      obtain rfl : j = l.length := by omega
      refine shift ?_
      simp only [laws_toStepS.l0]
      rw [List.drop_eq_nil_of_le (by simp), List.append_nil, List.take_of_length_le (Nat.le_refl _)]
      exact neg (by omega) (ret _)
    | succ d ih =>
      intro j hj
      refine shift ?_
      simp only [laws_toStepS.l0, laws_toStep.f]
      refine pos (by omega) ?_
      have hx : j < (l.take j ++ (List.replicate l.length (⟨0, 0⟩ : SStep)).drop j).length := by rw [List.length_append, List.length_take, List.length_drop, hm]; omega
      rw [gt_nat (show j < l.length by omega), gt_nat hx, w64_succ (by omega)]
      simp only [Option.bind_some]
      rw [st_nat hx, set_take (v := l[j]) (by omega) hm.symm (List.getElem?_eq_getElem (by omega))]
      exact ih (j + 1) (by omega)
  unfold laws_toStepS.f
  have := key l.length 0 (by omega)
  simp only [List.take_zero, List.drop_zero, List.nil_append, Int.natCast_zero] at this
  have hk : mk0 (l.length : Int) (⟨0, 0⟩ : SStep) = some (List.replicate l.length ⟨0, 0⟩) := by
    unfold mk0
    rw [if_pos (by omega), Int.toNat_natCast]
  exact bind0 hk (bind this (ret _))
theorem toPlan_ev (i : Int) (s : List SStep) (o : List Int) (hs : s.length < 1000000000) (ho : o.length < 1000000000) : Ev (fun k => laws_toPlan.f k i s o) (s, o) := by
  unfold laws_toPlan.f
  exact bind (toStepS_ev s hs) (bind (toIntS_ev o ho) (ret _))
/-! lists searched -/
/-- A number put into a rising list, as the code does it. -/
def put : List Int → Int → List Int
  | [], a => [a]
  | y :: ys, a => if y < a then y :: put ys a else if y = a then y :: ys else a :: y :: ys
def pre : List Int → Int → Nat
  | [], _ => 0
  | y :: ys, a => if y < a then pre ys a + 1 else 0
/-! rows of bools as functions -/
def tb (M : Nat) (f : Int → Bool) : List Bool := (List.range M).map fun (j : Nat) => f (j : Int)
end Go.Proofs.YtnnlfipcoahcnaaDoor.Pure
