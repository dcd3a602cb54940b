/- Rounds: how a printed function comes to its answer, step by step; whole numbers that don't wrap; lists read and written. -/
import Derived.Test.YtiaohjciddbpoaaKFnMethodsWWords
import Derived.Test.YtiaohjciddbpoaaKFnMethodsWMore
namespace Go.Proofs.Ytiaohjciddbpoaa.E
open Go.RowKit Go.Proofs.YtiaohjciddbpoaaW.PrintWords Go.Proofs.YtiaohjciddbpoaaW.PrintMore

theorem pos {α : Type} {c : Prop} [Decidable c] {g f : Nat → Option α} {r : α} (h : c) (k : Ev g r) : Ev (fun n => if c then g n else f n) r := by
 obtain ⟨K, k⟩ := k
 exact ⟨K, fun n hn => by simp only [if_pos h]; exact k n hn⟩
theorem neg {α : Type} {c : Prop} [Decidable c] {g f : Nat → Option α} {r : α} (h : ¬ c) (k : Ev f r) : Ev (fun n => if c then g n else f n) r := by
 obtain ⟨K, k⟩ := k
 exact ⟨K, fun n hn => by simp only [if_neg h]; exact k n hn⟩
theorem shift {α : Type} {g : Nat → Option α} {r : α} (k : Ev (fun n => g (n + 1)) r) : Ev g r := by
 obtain ⟨K, k⟩ := k
 refine ⟨K + 1, fun n hn => ?_⟩
 obtain ⟨m, rfl⟩ : ∃ m, n = m + 1 := ⟨n - 1, by omega⟩
 exact k m (by omega)
theorem now {α : Type} {g : Option α} {r : α} (h : g = some r) : Ev (fun _ => g) r := ⟨0, fun _ _ => h⟩
theorem ret {α : Type} (r : α) : Ev (fun _ => some r) r := ⟨0, fun _ _ => rfl⟩
theorem bind {α β : Type} {g : Nat → Option α} {f : Nat → α → Option β} {a : α} {r : β} (h : Ev g a) (k : Ev (fun n => f n a) r) : Ev (fun n => (g n).bind (f n)) r := Ev.bind h k
theorem bind0 {α β : Type} {g : Option α} {f : Nat → α → Option β} {a : α} {r : β} (h : g = some a) (k : Ev (fun n => f n a) r) : Ev (fun n => g.bind (f n)) r := by
 subst h
 exact k
theorem some_of {α : Type} {g : Nat → Option α} {r : α} (h : Ev g r) : ∃ k, g k = some r := h.rounds

end Go.Proofs.Ytiaohjciddbpoaa.E
