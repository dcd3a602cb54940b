/- Pure: what code bears that has a plan. -/
import Derived.Test.YtnnlfipcoahcnaaGreatDoorKFnExactParseRegCodePrun
set_option linter.unusedVariables false
set_option linter.unusedSimpArgs false
namespace Go.Proofs.YtnnlfipcoahcnaaGreatDoor.Pure
open Go.RowKit Go.Proofs.YtnnlfipcoahcnaaGreatDoor.E Go.Proofs.YtnnlfipcoahcnaaGreatDoor.G1 Go.Proofs.YtnnlfipcoahcnaaGreatDoor.Frame Go.Proofs.YtnnlfipcoahcnaaGreatDoorW.PrintLast Go.Proofs.YtnnlfipcoahcnaaGreatDoorW.PrintMore
open Go.Proofs.YtnnlfipcoahcnaaGreatDoorW.PrintWords hiding mn mx
structure CodeOk (n : Nat) (l1 : List Int) (l2 : List SRegOp) (l3 : List Int) : Prop where
  reg : 1 ≤ n ∧ n ≤ 46
  len1 : 1 ≤ l1.length ∧ l1.length ≤ 6
  len2 : l2.length ≤ 40
  len3 : l3.length ≤ 6
  dist : dst [] l1 = true
  ins : ∀ y ∈ l1, hs n y = true
  ops : ∀ y ∈ l2, hs n y.f0 = true ∧ hs n y.f1 = true ∧ hs n y.f2 = true
  outs : ∀ y ∈ l3, hs n y = true
  full : ∀ y ∈ l3, y ∈ l1 ∨ ∃ q ∈ l2, q.f0 = y
theorem insS_ne {n : Nat} {ys l : List Int} {i : Int} (hi : 0 ≤ i) (hl : l.length = n) (h : ∀ y ∈ ys, hs n y = true) {r : Int} (hr : hs n r = true) (hne : rg (insS ys l i) r ≠ -1) : rg l r ≠ -1 ∨ r ∈ ys := by
  induction ys generalizing l i with
  | nil => exact .inl hne
  | cons y ys ih =>
    have q := hs_iff.1 (h y List.mem_cons_self)
    have qr := hs_iff.1 hr
    rcases ih (by omega) (by simpa using hl) (fun z hz => h z (List.mem_cons_of_mem _ hz)) hne with g | g
    · rw [rg_set qr.1 (by omega) q.1] at g
      by_cases e : y = r
      · exact .inr (by rw [e]; exact List.mem_cons_self)
      · rw [if_neg e] at g
        exact .inl g
    · exact .inr (List.mem_cons_of_mem _ g)
theorem opsGo_ne {n : Nat} {m : Int} {ys : List SRegOp} {l : List Int} {s : List SStep} {a : List Int × List SStep} (hl : l.length = n) (h : opsGo n m ys l s = some a) {r : Int} (hr : hs n r = true) (hne : rg a.1 r ≠ -1) : rg l r ≠ -1 ∨ ∃ q ∈ ys, q.f0 = r := by
  induction ys generalizing l s with
  | nil =>
    simp only [opsGo, Option.some.injEq] at h
    subst h
    exact .inl hne
  | cons y ys ih =>
    simp only [opsGo] at h
    split at h
    · rename_i c
      have q := hs_iff.1 c.1.1
      have qr := hs_iff.1 hr
      rcases ih (by simpa using hl) h with g | ⟨q, hq, e⟩
      · rw [rg_set qr.1 (by omega) q.1] at g
        by_cases e : y.f0 = r
        · exact .inr ⟨y, List.mem_cons_self, e⟩
        · rw [if_neg e] at g
          exact .inl g
      · exact .inr ⟨q, List.mem_cons_of_mem _ hq, e⟩
    · cases h
theorem outsGo_ne {n : Nat} {l ys o a : List Int} (h : outsGo n l ys o = some a) : ∀ y ∈ ys, rg l y ≠ -1 := by
  induction ys generalizing o with
  | nil => exact fun y hy => nomatch hy
  | cons y ys ih =>
    simp only [outsGo] at h
    split at h
    · rename_i c
      intro z hz
      rcases List.mem_cons.1 hz with e | e
      · rw [e]
        exact c.2
      · exact ih h z e
    · cases h
theorem codeP_ok {a : Int} {l1 : List Int} {l2 : List SRegOp} {l3 : List Int} {s : List SStep} {o : List Int} (h : codeP a l1 l2 l3 = some (s, o)) : ∃ n : Nat, a = (n : Int) ∧ CodeOk n l1 l2 l3 ∧ Form l1.length s o := by
  unfold codeP at h
  split at h
  · rename_i hlen
    split at h
    · cases h
    · rename_i s' o' hrd
      split at h
      · rename_i hg
        obtain ⟨rfl, rfl⟩ : s' = s ∧ o' = o := by
          simp only [Option.some.injEq, Prod.mk.injEq] at h
          exact h
        obtain ⟨n, rfl⟩ := Int.eq_ofNat_of_zero_le (show 0 ≤ a by omega)
        have hreg : regs (n : Int) = n := by have := regs_in hlen.2; omega
        unfold rdGo at hrd
        rw [hreg] at hrd
        split at hrd
        · cases hrd
        · rename_i la hi
          split at hrd
          · cases hrd
          · rename_i lb sb hop
            split at hrd
            · cases hrd
            · rename_i ob hu
              obtain ⟨rfl, rfl⟩ : sb = s' ∧ ob = o' := by
                simp only [Option.some.injEq, Prod.mk.injEq] at hrd
                exact hrd
              obtain ⟨i1, i2⟩ := insGo_in n l1 (no n) [] 0 (by omega) (by simp [no]) (fun r hm => by cases hm) la hi
              have i3 := opsGo_in n _ l2 la [] _ hop
              have i4 := outsGo_in n lb l3 [] ob hu
              have ei := insGo_of n l1 (no n) [] 0 (by simp [no]) i1 i2 (fun r h _ => no_rg h)
              obtain rfl : insS l1 (no n) 0 = la := by rw [ei] at hi; exact Option.some.inj hi
              obtain ⟨I, hI, hform⟩ := good_form hg
              have hIl : I = l1.length := by omega
              subst hIl
              have a1 := fun y hy => List.all_eq_true.1 i1 y hy
              have hl0 : (no n).length = n := by simp [no]
              refine ⟨n, rfl, ⟨by omega, hform.inp, hlen.1.2.1, hlen.1.2.2, i2, a1, fun y hy => ?_, fun y hy => List.all_eq_true.1 i4.1 y hy, fun y hy => ?_⟩, hform⟩
              · have := List.all_eq_true.1 i3 y hy
                simp only [opIn, Bool.and_eq_true] at this
                exact this
              · have hy1 := List.all_eq_true.1 i4.1 y hy
                have hy2 := outsGo_ne hu y hy
                rcases opsGo_ne (by rw [insS_len]; exact hl0) hop hy1 hy2 with g | g
                · rcases insS_ne (by omega) hl0 a1 hy1 g with g | g
                  · exact absurd (no_rg hy1) g
                  · exact .inl g
                · exact .inr g
      · cases h
  · cases h
theorem reCode_ev (a : Int) (l1 : List Int) (l2 : List SRegOp) (l3 : List Int) : Ev (fun k => spec_reCode.f k a l1 l2 l3) (codeP a l1 l2 l3).isSome := by
  obtain ⟨r, hr, hc⟩ := rePlan_ev a l1 l2 l3
  unfold spec_reCode.f
  refine bind hr (now ?_)
  rcases hc with ⟨s, o, hc, rfl⟩ | ⟨hc, hf⟩
  · rw [hc]
    rfl
  · rw [hc]
    exact congrArg some hf
theorem isRegCode_ev (a : Int) (l1 : List Int) (l2 : List SRegOp) (l3 : List Int) : Ev (fun k => impl_IsRegCode.f k a l1 l2 l3) (codeP a l1 l2 l3).isSome := by
  unfold impl_IsRegCode.f
  refine bind (plan_ev a l1 l2 l3) (now ?_)
  cases codeP a l1 l2 l3 <;> rfl
def opMap (v : List Int) (y : SRegOp) : SRegOp := ⟨rg v y.f0, rg v y.f1, rg v y.f2⟩
end Go.Proofs.YtnnlfipcoahcnaaGreatDoor.Pure
