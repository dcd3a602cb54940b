/- Arguments of the laws opened: a slice of whole numbers, a slice of structs of whole numbers, as lists that the memory holds. -/
import Derived.Test.YtiaohjciddbpoaaKFnMethodsWWords
import Derived.Deep.Slices
import Derived.Deep.Fields
import Derived.ChangeSame
import Derived.ChangeSlices
import Derived.Lib.SmallJoins
namespace Go.Proofs.Ytiaohjciddbpoaa.Open
open Go.ChangeShapes Go.WideShapes Go.Deep Go.RowKit Go.Proofs.YtiaohjciddbpoaaW.PrintWords
variable {H : Type} {enc : TypeId × Value → H} {P : Program} {w : World} {base : Nat} {spare : Nat → Bool} {held : Bool}

theorem open_intsC {t e : TypeId} {k : IntKind} {fuel : Nat} {v : Value} {x : DataW H × List MemPlace} (ht : P.underlying t = some (.slice e)) (he : P.underlying e = some (.int k)) (hc : P.cellsOf e = 1)
  (h : DataW.trod enc P w base spare held fuel t [v] = some x) :
  ∃ (A : Option Addr) (c : Nat) (l : List Int), v = .slice A l.length c ∧ l.length ≤ c ∧ l.length ≤ maxLen ∧ Kd.C (Kd.int k) w A l.length l ∧ ∀ y ∈ l, (Lit.int k y).wf = true := by
 rcases open_ints ht he hc h with ⟨hcs, _⟩ | ⟨a, len, cap, zs, hcs, _, hl, hm, hz, _, hcell, hwz⟩
 ·injection hcs with hv
  exact ⟨none, 0, [], hv, by simp, by simp, ⟨rfl, by simp, fun h => by simp at h⟩, by simp⟩
 ·injection hcs with hv
  have hlen : len ≤ zs.length := by
   rw [hz]
   split <;> omega
  have ht' : (zs.take len).length = len := by rw [List.length_take]; omega
  refine ⟨some a, cap, zs.take len, by rw [ht']; exact hv, by omega, by omega, ?_, fun y hy => hwz y (List.mem_of_mem_take hy)⟩
  have hm' : cap ≤ 9223372036854775807 := hm
  refine ⟨rfl, by omega, fun _ => ⟨a, rfl, fun j p hj => ?_⟩⟩
  have hjl : j < len := by
   have := (List.getElem?_eq_some_iff.1 hj).1
   omega
  refine ⟨[.int k p], rfl, rfl, fun i u hi => ?_⟩
  have hi0 : i = 0 := by
   have := (List.getElem?_eq_some_iff.1 hi).1
   simp at this
   exact this
  subst hi0
  have hu : u = .int k p := by simpa using hi.symm
  subst hu
  have e1 : zs[j]? = some p := by rw [List.getElem?_take] at hj; simpa [hjl] using hj
  show w.cell? (a.add (j * 1 + 0)) = _
  rw [Nat.mul_one, Nat.add_zero, hcell j (by omega), List.getD_eq_getElem?_getD, e1]
  rfl

end Go.Proofs.Ytiaohjciddbpoaa.Open
