/- Pure: texts read: cuts and numbers, as the program and as the documentation have them. -/
import Derived.Test.YtnnlfipcoahcnaaDoorKFnExactRegCodeTextPtx
set_option linter.unusedVariables false
set_option linter.unusedSimpArgs false
namespace Go.Proofs.YtnnlfipcoahcnaaDoor.Pure
open Go.RowKit Go.Proofs.YtnnlfipcoahcnaaDoor.E Go.Proofs.YtnnlfipcoahcnaaDoor.P3 Go.Proofs.YtnnlfipcoahcnaaDoor.Hand Go.Proofs.YtnnlfipcoahcnaaDoor.Frame Go.Proofs.YtnnlfipcoahcnaaDoorW.PrintLast Go.Proofs.YtnnlfipcoahcnaaDoorW.PrintMore Go.Lib Go.Proofs.YtnnlfipcoahcnaaDoor.Txl
open Go.Proofs.YtnnlfipcoahcnaaDoorW.PrintWords hiding mn mx
/-! cuts at a byte -/
/-! a number -/
def num6 (l : List UInt8) : Bool := decide (1 ≤ l.length ∧ l.length ≤ 6) && (!(decide (l.head? = some 48) && decide (1 < l.length)) && l.all dig)
def rdn (l : List UInt8) : Int := if num6 l = true then (val l : Int) else -1
/-- the program's number of a text -/
def ati (l : List UInt8) : Int := match atoiAll l with
  | .ok v => v
  | .range => atoiSat l
  | _ => 0
/-! a cut into so many -/
def spn (b : UInt8) (n : Nat) (s : List UInt8) : List (List UInt8) := splitK [b] 0 (min n (s.length + 1) - 1) s
def prt (n : Nat) (s : List UInt8) : List (List UInt8) := if s = [45] then [] else spn 44 (n + 1) s
/-! what holds of joined texts -/
end Go.Proofs.YtnnlfipcoahcnaaDoor.Pure
