/- Arguments of the laws opened: a slice of whole numbers, a slice of structs of whole numbers, as lists that the memory holds. -/
import Derived.Test.YtnnlfipcoahcnaaDoorKFnExactRegCodeTextWWords
import Derived.Deep.Slices
import Derived.Deep.Fields
import Derived.ChangeSame
import Derived.ChangeSlices
import Derived.Lib.SmallJoins
namespace Go.Proofs.YtnnlfipcoahcnaaDoor.Open
open Go.ChangeShapes Go.WideShapes Go.Deep Go.RowKit Go.Proofs.YtnnlfipcoahcnaaDoorW.PrintWords
variable {H : Type} {enc : TypeId × Value → H} {P : Program} {w : World} {base : Nat} {spare : Nat → Bool} {held : Bool}

theorem choose_list {α : Type} (n : Nat) (R : Nat → α → Prop) (h : ∀ i, i < n → ∃ x, R i x) : ∃ l : List α, l.length = n ∧ ∀ i x, l[i]? = some x → R i x := by
  induction n with
  | zero => exact ⟨[], rfl, fun i x hx => by simp at hx⟩
  | succ n ih =>
    obtain ⟨l, hl, hR⟩ := ih (fun i hi => h i (by omega))
    obtain ⟨x, hx⟩ := h n (by omega)
    refine ⟨l ++ [x], by simp [hl], fun i y hy => ?_⟩
    rcases Nat.lt_or_ge i l.length with hi | hi
    · rw [List.getElem?_append_left hi] at hy
      exact hR i y hy
    · have : i = l.length := by
        have := (List.getElem?_eq_some_iff.1 hy).1
        rw [List.length_append, List.length_singleton] at this
        omega
      subst this
      simp at hy
      subst hy
      rw [hl]
      exact hx

theorem open_intsC {t e : TypeId} {k : IntKind} {fuel : Nat} {v : Value} {x : DataW H × List MemPlace} (ht : P.underlying t = some (.slice e)) (he : P.underlying e = some (.int k)) (hc : P.cellsOf e = 1)
    (h : DataW.trod enc P w base spare held fuel t [v] = some x) :
    ∃ (A : Option Addr) (c : Nat) (l : List Int), v = .slice A l.length c ∧ l.length ≤ c ∧ l.length ≤ maxLen ∧ Kd.C (Kd.int k) w A l.length l ∧ ∀ y ∈ l, (Lit.int k y).wf = true := by
  rcases open_ints ht he hc h with ⟨hcs, _⟩ | ⟨a, len, cap, zs, hcs, _, hl, hm, hz, _, hcell, hwz⟩
  · injection hcs with hv
    exact ⟨none, 0, [], hv, by simp, by simp, ⟨rfl, by simp, fun h => by simp at h⟩, by simp⟩
  · injection hcs with hv
    have hlen : len ≤ zs.length := by
      rw [hz]
      split <;> omega
    have ht' : (zs.take len).length = len := by rw [List.length_take]; omega
    refine ⟨some a, cap, zs.take len, by rw [ht']; exact hv, by omega, by omega, ?_, fun y hy => hwz y (List.mem_of_mem_take hy)⟩
    have hm' : cap ≤ 9223372036854775807 := hm
    refine ⟨rfl, by omega, fun _ => ⟨a, rfl, fun j p hj => ?_⟩⟩
    have hjl : j < len := by
      have := (List.getElem?_eq_some_iff.1 hj).1
      omega
    refine ⟨[.int k p], rfl, rfl, fun i u hi => ?_⟩
    have hi0 : i = 0 := by
      have := (List.getElem?_eq_some_iff.1 hi).1
      simp at this
      exact this
    subst hi0
    have hu : u = .int k p := by simpa using hi.symm
    subst hu
    have e1 : zs[j]? = some p := by rw [List.getElem?_take] at hj; simpa [hjl] using hj
    show w.cell? (a.add (j * 1 + 0)) = _
    rw [Nat.mul_one, Nat.add_zero, hcell j (by omega), List.getD_eq_getElem?_getD, e1]
    rfl

theorem open_flat {α : Type} (d : Kd α) (mk : List Int → α) (Q : α → Prop) {t e : TypeId} {fs : Array Field} {fuel : Nat} {v : Value} {x : DataW H × List MemPlace} (ht : P.underlying t = some (.slice e)) (he : P.underlying e = some (.struct fs))
    (hone : oneCellFields P fs = true) (hC : P.cellsOf e = fs.size) (hint : ∀ (j : Nat) (f : Field), fs[j]? = some f → P.underlying f.type = some (.int .i64)) (hsz : d.sz = fs.size)
    (hK : ∀ (W : World) (r : List Int), r.length = fs.size → d.K W (mk r) (r.map (Value.int .i64))) (hQ : ∀ r : List Int, r.length = fs.size → (∀ n ∈ r, (Lit.int .i64 n).wf = true) → Q (mk r))
    (h : DataW.trod enc P w base spare held fuel t [v] = some x) :
    ∃ (A : Option Addr) (c : Nat) (l : List α), v = .slice A l.length c ∧ l.length ≤ c ∧ l.length ≤ maxLen ∧ d.C w A l.length l ∧ ∀ y ∈ l, Q y := by
  rcases Go.Deep.open_slice ht h with ⟨hcs, _⟩ | ⟨a, len, cap, m, n, D, Pl, hcs, _, hl, hm, hmm, _, hi⟩
  · injection hcs with hv
    exact ⟨none, 0, [], hv, by simp, by simp, ⟨rfl, by simp, fun h => by simp at h⟩, by simp⟩
  · injection hcs with hv
    have hlm : len ≤ m := by rw [hmm]; split <;> omega
    have each : ∀ i, i < len → ∃ r : List Int, r.length = fs.size ∧ (∀ n ∈ r, (Lit.int .i64 n).wf = true) ∧ ∀ j u, (r.map (Value.int .i64))[j]? = some u → w.cell? (a.add (i * fs.size + j)) = some u := by
      intro i hil
      obtain ⟨cs', hcell, ht'⟩ := hi i (by omega)
      rw [hC] at hcell
      obtain ⟨ys, n', _, hy, hlen, hyl, hf⟩ := DataW.trod_struct he ht'
      obtain ⟨_, hcl, hat⟩ := World.cells?_some hcell
      have fld : ∀ j, j < fs.size → ∃ q : Int, (Lit.int .i64 q).wf = true ∧ cs'[j]? = some (.int .i64 q) := by
        intro j hj
        have hfj : fs[j]? = some fs[j] := Array.getElem?_eq_getElem hj
        obtain ⟨ho, hk⟩ := hone_of hone j _ hfj
        have h1 := hf j _ hfj
        rw [ho, hk] at h1
        have hjc : j < cs'.length := by omega
        have hone' : (cs'.drop j).take 1 = [cs'[j]] := by
          rw [List.drop_eq_getElem_cons hjc]
          rfl
        have hyj : j < ys.length := by omega
        rw [hone', List.getElem?_eq_getElem hyj] at h1
        obtain ⟨q, hq, _, hw⟩ := DataW.trod_int (hint j _ hfj) h1
        injection hq with hq
        exact ⟨q, hw, by rw [List.getElem?_eq_getElem hjc, hq]⟩
      obtain ⟨r, hr, hR⟩ := choose_list fs.size (fun j q => (Lit.int .i64 q).wf = true ∧ cs'[j]? = some (.int .i64 q)) fld
      refine ⟨r, hr, fun q hq => ?_, fun j u hu => ?_⟩
      · obtain ⟨j, hj⟩ := List.getElem?_of_mem hq
        exact (hR j q hj).1
      · rw [List.getElem?_map] at hu
        cases hrj : r[j]? with
        | none => rw [hrj] at hu; simp at hu
        | some q =>
          rw [hrj] at hu
          have hu' : u = .int .i64 q := by simpa using hu.symm
          subst hu'
          have hjl : j < fs.size := by
            have := (List.getElem?_eq_some_iff.1 hrj).1
            omega
          rw [← Go.Deep.add_add, hat j hjl]
          exact (hR j q hrj).2
    obtain ⟨rs, hrs, hRs⟩ := choose_list len _ each
    refine ⟨some a, cap, rs.map mk, by rw [List.length_map, hrs]; exact hv, by rw [List.length_map]; omega, by rw [List.length_map]; omega, ?_, ?_⟩
    · have hm' : cap ≤ 9223372036854775807 := hm
      refine ⟨rfl, by rw [List.length_map]; omega, fun _ => ⟨a, rfl, fun j p hj => ?_⟩⟩
      rw [List.getElem?_map] at hj
      cases hrj : rs[j]? with
      | none => rw [hrj] at hj; simp at hj
      | some r =>
        rw [hrj] at hj
        have hp : p = mk r := by simpa using hj.symm
        subst hp
        obtain ⟨h1, h2, h3⟩ := hRs j r hrj
        refine ⟨r.map (Value.int .i64), by rw [List.length_map, h1, hsz], hK w r h1, fun i u hu => ?_⟩
        rw [hsz]
        exact h3 i u hu
    · intro y hy
      obtain ⟨r, hr, rfl⟩ := List.mem_map.1 hy
      obtain ⟨j, hj⟩ := List.getElem?_of_mem hr
      obtain ⟨h1, h2, _⟩ := hRs j r hj
      exact hQ r h1 h2
end Go.Proofs.YtnnlfipcoahcnaaDoor.Open
