/- Texts as lists of bytes: cuts, joins, numerals. -/
import Derived.Lib.Split
import Derived.Lib.Join
import Derived.Lib.ItoaNum
import Derived.Lib.AtoiAll
namespace Go.Proofs.YtnnlfipcoahcnaaDoor.Txl
open Go Go.Lib
/-- a text cut at each byte b -/
def spl (b : UInt8) : List UInt8 → List (List UInt8)
  | [] => [[]]
  | c :: r => if c = b then [] :: spl b r else (c :: (spl b r).headD []) :: (spl b r).tail
/-- texts with a byte between them -/
def jn (b : UInt8) : List (List UInt8) → List UInt8
  | [] => []
  | [x] => x
  | x :: y :: t => x ++ b :: jn b (y :: t)
theorem jn_cons (b : UInt8) (x : List UInt8) {t : List (List UInt8)} (h : t ≠ []) : jn b (x :: t) = x ++ b :: jn b t := by
  cases t with
  | nil => exact absurd rfl h
  | cons y t => rfl
theorem jn_join (b : UInt8) (ps : List (List UInt8)) : Lib.join ps [b] = jn b ps := by
  induction ps with
  | nil => rfl
  | cons x t ih =>
    cases t with
    | nil => exact join_one x [b]
    | cons y t =>
      rw [jn_cons _ _ (by simp), ← ih, join_cons, join_cons]
      simp [joinTail]
theorem jn_append (b : UInt8) : ∀ {ps : List (List UInt8)} (x : List UInt8), ps ≠ [] → jn b (ps ++ [x]) = jn b ps ++ b :: x
  | [], x, h => absurd rfl h
  | [y], x, _ => rfl
  | y :: z :: t, x, _ => by
    show y ++ b :: jn b ((z :: t) ++ [x]) = (y ++ b :: jn b (z :: t)) ++ b :: x
    rw [jn_append b x (by simp)]
    simp
/-! cuts of the library -/
/-! numerals -/
def dig (c : UInt8) : Bool := decide (48 ≤ c.toNat) && decide (c.toNat ≤ 57)
def val (l : List UInt8) : Nat := l.foldl (fun n c => 10 * n + (c.toNat - 48)) 0
theorem dec_ne (n : Nat) : decDigits n ≠ [] := by
  rw [decDigits]
  split <;> simp
/-- a numeral as it is written -/
def canon (l : List UInt8) : Prop := l ≠ [] ∧ (∀ c ∈ l, dig c = true) ∧ (l.head? = some 48 → l.length = 1)
end Go.Proofs.YtnnlfipcoahcnaaDoor.Txl
