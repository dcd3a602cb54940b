/- Pure: the program reads register code from texts as the documentation does. -/
import Derived.Test.YtnnlfipcoahcnaaGreatDoorKFnExactParseRegCodePtcq
import Derived.Test.YtnnlfipcoahcnaaGreatDoorKFnExactParseRegCodePcode
set_option linter.unusedVariables false
set_option linter.unusedSimpArgs false
namespace Go.Proofs.YtnnlfipcoahcnaaGreatDoor.Pure
open Go.RowKit Go.Proofs.YtnnlfipcoahcnaaGreatDoor.E Go.Proofs.YtnnlfipcoahcnaaGreatDoor.G1 Go.Proofs.YtnnlfipcoahcnaaGreatDoor.Hand Go.Proofs.YtnnlfipcoahcnaaGreatDoor.Frame Go.Proofs.YtnnlfipcoahcnaaGreatDoorW.PrintLast Go.Proofs.YtnnlfipcoahcnaaGreatDoorW.PrintMore Go.Lib Go.Proofs.YtnnlfipcoahcnaaGreatDoor.Txl
open Go.Proofs.YtnnlfipcoahcnaaGreatDoorW.PrintWords hiding mn mx
theorem FnExactParseRegCode : laws_FnExactParseRegCode.Pure := by
  intro a ha
  obtain ⟨s, rfl⟩ : ∃ s, a = bs s := ⟨_, (bs_of a).symm⟩
  refine some_of ?_
  unfold laws_FnExactParseRegCode.f
  rw [bs_size]
  by_cases c : 1048576 < (s.length : Int)
  · exact pos c (ret _)
  · have h1 := scode_ev (s := s) (by omega)
    have h2 := icode_ev (s := s) (by omega)
    rw [ic_sc] at h2
    have hl := scR_len s
    obtain ⟨r, hr⟩ : ∃ r, scR s = r := ⟨_, rfl⟩
    rw [hr] at h1 h2 hl
    obtain ⟨i, l1, l2, l3, b⟩ := r
    obtain ⟨q1, q2, q3⟩ := hl
    replace q1 : l1.length ≤ 1000 := q1
    replace q2 : l2.length ≤ 1000 := q2
    replace q3 : l3.length ≤ 1000 := q3
    have hq := eqCode_refl i l1 l2 l3 (by omega) (by omega) (by omega)
    have hm := markCode_ev i l1 l2 l3 1 (by omega) (by omega)
    have hh := heldCode_ev i l1.length l2.length l3.length 1 (by omega) (by omega)
    refine neg c (bind h1 (bind h2 (bind hq (pos rfl (neg (by simp) (bind hm (bind hh (neg (by omega) (neg (by simp) (bind h2 (bind hq (pos rfl (neg (by simp) (bind hh (neg (by omega) (neg (by simp) (ret _)))))))))))))))))
end Go.Proofs.YtnnlfipcoahcnaaGreatDoor.Pure
