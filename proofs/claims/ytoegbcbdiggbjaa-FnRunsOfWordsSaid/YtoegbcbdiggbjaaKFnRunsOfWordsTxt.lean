/- Contracts of library functions on texts. -/
import Derived.Test.YtoegbcbdiggbjaaKFnRunsOfWordsOpr
import Derived.Shelf.Strings.OnBuilder
import Derived.Test.YtoegbcbdiggbjaaKFnRunsOfWordsWMore
import Derived.Test.YtoegbcbdiggbjaaProg
import Derived.KernelRfl
namespace Go.Proofs.Ytoegbcbdiggbjaa.Hand
open Go.RowKit Go.Shelf Go.Proofs Go.Proofs.Ytoegbcbdiggbjaa.Frame Go.Proofs.YtoegbcbdiggbjaaW.PrintLast
open Go.Proofs.YtoegbcbdiggbjaaW.PrintWords hiding mn mx
set_option linter.unusedVariables false
set_option linter.unusedSimpArgs false
def joinL_ren : Go.Shelf.Ren := ⟨fun | 156 => 130 | 165 => 200 | 166 => 201 | 169 => 202 | 240 => 226 | 241 => 227 | 276 => 234 | 277 => 235 | n => n, fun | 31 => 53 | 9 => 9 | 3 => 3 | 4 => 4 | 0 => 0 | 20 => 20 | 72 => 170 | 76 => 174 | 70 => 168 | 37 => 22 | 75 => 173 | 127 => 184 | 164 => 187 | 5 => 5 | 80 => 176 | n => n, fun | n => n⟩
theorem joinL : Go.Proofs.Lays.n156 Try.prog joinL_ren := {
  mixed := by kernel_rfl
  f156 := Try.func130.trans (congrArg some (by kernel_rfl))
  f165 := Try.func200.trans (congrArg some (by kernel_rfl))
  f166 := Try.func201.trans (congrArg some (by kernel_rfl))
  f169 := Try.func202.trans (congrArg some (by kernel_rfl))
  f240 := Try.func226.trans (congrArg some (by kernel_rfl))
  f241 := Try.func227.trans (congrArg some (by kernel_rfl))
  f276 := Try.func234.trans (congrArg some (by kernel_rfl))
  f277 := Try.func235.trans (congrArg some (by kernel_rfl))
  t0 := Try.underlying0
  a0 := Try.isAgg0
  z0 := Try.sizeOf0
  v0 := Try.zeroValue0
  t3 := Try.underlying3
  a3 := Try.isAgg3
  z3 := Try.sizeOf3
  v3 := Try.zeroValue3
  t4 := Try.underlying4
  a4 := Try.isAgg4
  z4 := Try.sizeOf4
  v4 := Try.zeroValue4
  t9 := Try.underlying9
  a9 := Try.isAgg9
  z9 := Try.sizeOf9
  v9 := Try.zeroValue9
  t20 := Try.underlying20
  a20 := Try.isAgg20
  z20 := Try.sizeOf20
  v20 := Try.zeroValue20
  t31 := Try.underlying53
  a31 := Try.isAgg53
  z31 := Try.sizeOf53
  v31 := Try.zeroValue53
  t37 := Try.underlying22
  a37 := Try.isAgg22
  z37 := Try.sizeOf22
  v37 := Try.zeroValue22
  t70 := Try.underlying168
  a70 := Try.isAgg168
  z70 := Try.sizeOf168
  v70 := Try.zeroValue168
  t72 := Try.underlying170
  a72 := Try.isAgg170
  z72 := Try.sizeOf170
  v72 := Try.zeroValue170
  t75 := Try.underlying173
  a75 := Try.isAgg173
  z75 := Try.sizeOf173
  v75 := Try.zeroValue173
  t76 := Try.underlying174
  a76 := Try.isAgg174
  z76 := Try.sizeOf174
  v76 := Try.zeroValue174
  t127 := Try.underlying184
  a127 := Try.isAgg184
  z127 := Try.sizeOf184
  v127 := Try.zeroValue184
  t164 := Try.underlying187
  a164 := Try.isAgg187
  z164 := Try.sizeOf187
  v164 := Try.zeroValue187 }
theorem extraJ : Builder.Extra Try.prog joinL_ren := {
  sizeBuilder := by kernel_rfl
  liesBuilder := by kernel_rfl
  t5 := Try.underlying5
  a5 := Try.isAgg5
  z5 := Try.sizeOf5
  v5 := Try.zeroValue5
  infoByte := by kernel_rfl
  cellsByte := by kernel_rfl
  sizeByte := by kernel_rfl
  neB5 := by decide }
theorem cell_lit {w : World} {a : Addr} {x : Value} (h : w.cell? a = some x) : a.spot = none ∧ a.block < w.heap.size := by
  unfold World.cell? at h
  split at h
  · rename_i hh
    split at h
    · cases h
    · rename_i hs
      exact ⟨by simpa using hs, (Array.getElem?_eq_some_iff.1 hh).1⟩
  · cases h
/-- texts with another between them -/
def strings_Join.f (l0 : List ByteArray) (a1 : ByteArray) : Option ByteArray := if l0.length ≤ 100000000 ∧ (Lib.join (l0.map (·.data.toList)) a1.data.toList).length ≤ 1000000000 then some ⟨(Lib.join (l0.map (·.data.toList)) a1.data.toList).toArray⟩ else none
theorem strings_Join.calls {w0 ws : World} {P0 : Nat → Prop} (A0 : Option Addr) (c0 : Nat) (n0 : Nat) (l0 : List ByteArray) (a1 : ByteArray) (Z : Below w0.heap.size w0 ws) (hF : Fr w0 ws P0 [] ws) (R0 : Stable ws P0 (fun w => Kd.C Kd.string w A0 n0 l0)) (hc0 : n0 ≤ c0) (r_1 : ByteArray) (h : strings_Join.f l0 a1 = some r_1) :
    Calls Try.prog 130 #[.slice A0 n0 c0, .string a1] ws (Post1 w0 ws P0 (fun (_ : Unit) => .string r_1) (fun (_ : Unit) => [])) := by
  have hC := R0 ws (KeptB.refl _ _)
  obtain rfl := hC.1
  unfold strings_Join.f at h
  by_cases hc : l0.length ≤ 100000000 ∧ (Lib.join (l0.map (·.data.toList)) a1.data.toList).length ≤ 1000000000
  rotate_left
  · rw [if_neg hc] at h
    cases h
  rw [if_pos hc] at h
  obtain rfl := Option.some.inj h
  rcases Nat.eq_zero_or_pos l0.length with h0 | h0
  · obtain rfl := List.eq_nil_of_length_eq_zero h0
    refine (Any.strings_Join_none joinL extraJ A0 c0 a1 ws).mono ?_
    rintro e w' ⟨rfl, rfl⟩
    exact ⟨(), rfl, hF⟩
  · obtain ⟨ad, rfl, hx⟩ := hC.2.2 h0
    have hcell : ∀ (j : Nat) x, l0[j]? = some x → ws.cell? (ad.add j) = some (.string x) := fun j x hj => by
      obtain ⟨cs, k1, k2, k3⟩ := hx _ _ hj
      have k2' : cs = [Value.string x] := k2
      subst k2'
      have := k3 0 _ rfl
      have h1 : Kd.string.sz = 1 := rfl
      rw [h1, Nat.mul_one, Nat.add_zero] at this
      exact this
    obtain ⟨b, o, sp⟩ := ad
    have h00 := hcell 0 l0[0] (List.getElem?_eq_getElem h0)
    rw [Addr.add_zero'] at h00
    have hsp := cell_lit h00
    obtain ⟨rfl, hb⟩ := hsp
    refine (Any.strings_Join joinL extraJ b o c0 l0 a1 ws (fun j x hj => by have := hcell j x hj; rwa [Addr.add_lit] at this) hb (by omega) hc0 (by omega)).mono ?_
    rintro e w' ⟨rfl, hB⟩
    exact ⟨(), rfl, hF.below hB⟩
end Go.Proofs.Ytoegbcbdiggbjaa.Hand
