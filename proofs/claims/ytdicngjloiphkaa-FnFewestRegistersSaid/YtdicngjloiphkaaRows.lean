/-
  No cell of these rows narrows 'for every input' (looked for: loops, veiled, ifaces, maps, wideKeys, modest, calm, conditions, laid).
  DERIVED. THE GIVEN ROWS OF THIS SEAT. 5 by the template 'for every input the law returns true; each argument reads behind the call as it read before'; 0 by the template 'total and deterministic' (their statements: YtdicngjloiphkaaTotals.lean).
  GIVEN WITH THE SEED: the statements are not yours to turn. If you find one false, say at which input.
  Laid BY PROGRAM, IN A SANDBOX (cutbox-rows.mjs): the forced cells as the released guide's own fill.sh prints them over the translation 7d1f8935ab1b8d03… (all of the seat's roots in one cut). By AI agents, Wed Nov 11 2026. No macro, syntax, notation, axiom, sorry.
-/
import Derived.Test.YtdicngjloiphkaaChecked
import GoSem.Claim
import GoSem.ClaimJoined
import GoSem.ClaimMapViews
import Derived.JoinedTies
import Derived.KernelRfl
namespace Go.Proofs.Ytdicngjloiphkaa
/- THE CELL 'sum', in the pinned program and in every row, IS THE sha256 OF THE DUMP (.gsa) THAT YtdicngjloiphkaaProg.lean LOADS. Nothing in Lean hashes anything: it is a label: what it is worth is what the hold of that sum in a sandbox is worth. -/
noncomputable def Try.pinned : Pinned := { name := "ytdicngjloiphkaa", sum := "7d1f8935ab1b8d038fa63a7afa2e9b11ddfd6b49d67a2c21bea802f83f85f1fc", checked := Try.checked }
namespace Rows
def none {H : Type} : Left H := { results := [], args := [] }

/-- 'laws.FnOrdersWithin': WHATEVER THE INPUT: true; the input reads as it did. -/
def fnOrdersWithinSpec : ChangeSpec := { name := "fnOrdersWithin", fn := fun _ => fun
  | [d1, d2] => { results := [.lit (.bool true)], args := [d1, d2] }
  | _ => none }
def fnOrdersWithinRow : OpenClaim := { program := "ytdicngjloiphkaa", sum := "7d1f8935ab1b8d038fa63a7afa2e9b11ddfd6b49d67a2c21bea802f83f85f1fc", func := "loop.example/g01098/laws.FnOrdersWithin", spec := "fnOrdersWithin", unfollowed := true, recurses := true, apart := false }
def FnOrdersWithinSaid : Prop := fnOrdersWithinRow.holds Try.pinned (OpenSpec.ofChange fnOrdersWithinSpec)

/-- ITS FALSE NEIGHBOUR: 'it returns false'. Refute it at one input. -/
def fnOrdersWithinWrong : ChangeSpec := { name := "fnOrdersWithin", fn := fun _ => fun
  | [d1, d2] => { results := [.lit (.bool false)], args := [d1, d2] }
  | _ => none }
def FnOrdersWithinWrongFalsely : Prop := fnOrdersWithinRow.holds Try.pinned (OpenSpec.ofChange fnOrdersWithinWrong)

/-- 'laws.FnFewestRegisters': WHATEVER THE INPUT: true; the input reads as it did. -/
def fnFewestRegistersSpec : ChangeSpec := { name := "fnFewestRegisters", fn := fun _ => fun
  | [d1, d2] => { results := [.lit (.bool true)], args := [d1, d2] }
  | _ => none }
def fnFewestRegistersRow : OpenClaim := { program := "ytdicngjloiphkaa", sum := "7d1f8935ab1b8d038fa63a7afa2e9b11ddfd6b49d67a2c21bea802f83f85f1fc", func := "loop.example/g01098/laws.FnFewestRegisters", spec := "fnFewestRegisters", unfollowed := true, recurses := true, apart := false }
def FnFewestRegistersSaid : Prop := fnFewestRegistersRow.holds Try.pinned (OpenSpec.ofChange fnFewestRegistersSpec)

/-- ITS FALSE NEIGHBOUR: 'it returns false'. Refute it at one input. -/
def fnFewestRegistersWrong : ChangeSpec := { name := "fnFewestRegisters", fn := fun _ => fun
  | [d1, d2] => { results := [.lit (.bool false)], args := [d1, d2] }
  | _ => none }
def FnFewestRegistersWrongFalsely : Prop := fnFewestRegistersRow.holds Try.pinned (OpenSpec.ofChange fnFewestRegistersWrong)

/-- 'laws.FnAllocatedCode': WHATEVER THE INPUT: true; the input reads as it did. -/
def fnAllocatedCodeSpec : ChangeSpec := { name := "fnAllocatedCode", fn := fun _ => fun
  | [d1, d2] => { results := [.lit (.bool true)], args := [d1, d2] }
  | _ => none }
def fnAllocatedCodeRow : OpenClaim := { program := "ytdicngjloiphkaa", sum := "7d1f8935ab1b8d038fa63a7afa2e9b11ddfd6b49d67a2c21bea802f83f85f1fc", func := "loop.example/g01098/laws.FnAllocatedCode", spec := "fnAllocatedCode", unfollowed := true, recurses := true, apart := false }
def FnAllocatedCodeSaid : Prop := fnAllocatedCodeRow.holds Try.pinned (OpenSpec.ofChange fnAllocatedCodeSpec)

/-- ITS FALSE NEIGHBOUR: 'it returns false'. Refute it at one input. -/
def fnAllocatedCodeWrong : ChangeSpec := { name := "fnAllocatedCode", fn := fun _ => fun
  | [d1, d2] => { results := [.lit (.bool false)], args := [d1, d2] }
  | _ => none }
def FnAllocatedCodeWrongFalsely : Prop := fnAllocatedCodeRow.holds Try.pinned (OpenSpec.ofChange fnAllocatedCodeWrong)

/-- 'laws.FnCodesRun': WHATEVER THE INPUT: true; the input reads as it did. -/
def fnCodesRunSpec : ChangeSpec := { name := "fnCodesRun", fn := fun _ => fun
  | [d1, d2] => { results := [.lit (.bool true)], args := [d1, d2] }
  | _ => none }
def fnCodesRunRow : OpenClaim := { program := "ytdicngjloiphkaa", sum := "7d1f8935ab1b8d038fa63a7afa2e9b11ddfd6b49d67a2c21bea802f83f85f1fc", func := "loop.example/g01098/laws.FnCodesRun", spec := "fnCodesRun", unfollowed := true, recurses := true, apart := false }
def FnCodesRunSaid : Prop := fnCodesRunRow.holds Try.pinned (OpenSpec.ofChange fnCodesRunSpec)

/-- ITS FALSE NEIGHBOUR: 'it returns false'. Refute it at one input. -/
def fnCodesRunWrong : ChangeSpec := { name := "fnCodesRun", fn := fun _ => fun
  | [d1, d2] => { results := [.lit (.bool false)], args := [d1, d2] }
  | _ => none }
def FnCodesRunWrongFalsely : Prop := fnCodesRunRow.holds Try.pinned (OpenSpec.ofChange fnCodesRunWrong)

/-- 'laws.FnMethods': WHATEVER THE INPUT: true; the input reads as it did. -/
def fnMethodsSpec : ChangeSpec := { name := "fnMethods", fn := fun _ => fun
  | [d1, d2] => { results := [.lit (.bool true)], args := [d1, d2] }
  | _ => none }
def fnMethodsRow : OpenClaim := { program := "ytdicngjloiphkaa", sum := "7d1f8935ab1b8d038fa63a7afa2e9b11ddfd6b49d67a2c21bea802f83f85f1fc", func := "loop.example/g01098/laws.FnMethods", spec := "fnMethods", unfollowed := true, recurses := true, apart := false }
def FnMethodsSaid : Prop := fnMethodsRow.holds Try.pinned (OpenSpec.ofChange fnMethodsSpec)

/-- ITS FALSE NEIGHBOUR: 'it returns false'. Refute it at one input. -/
def fnMethodsWrong : ChangeSpec := { name := "fnMethods", fn := fun _ => fun
  | [d1, d2] => { results := [.lit (.bool false)], args := [d1, d2] }
  | _ => none }
def FnMethodsWrongFalsely : Prop := fnMethodsRow.holds Try.pinned (OpenSpec.ofChange fnMethodsWrong)

/- THE SECOND FORM. 'bulk': how many values and letters a reading holds, each counted each time it is reached (what is shared counts as often as it is met; a slice's spare places count too). A statement '..UptoSaid' is the law's where the arguments, and the package variables that the reading takes, are together of bulk at most 1048576: NARROWER than '..Said'. Prove '..Said' where nothing that the law and all that it calls make is longer than what came in: it says more and counts as full. Else prove '..UptoSaid'. A law counts once. -/
mutual
def uptoBulk {H : Type} : DataW H → Nat
  | .lit (.string bytes) => bytes.length + 1
  | .lit _ => 1
  | .nil => 1
  | .ptr d => uptoBulk d + 1
  | .slice elems spare => uptoBulkAll elems + uptoBulkAll spare + 1
  | .agg parts => uptoBulkAll parts + 1
  | .iface _ d => uptoBulk d + 1
  | .map entries => uptoBulkEntries entries + 1
  | .held _ => 1
def uptoBulkAll {H : Type} : List (DataW H) → Nat
  | [] => 0
  | d :: r => uptoBulk d + uptoBulkAll r
def uptoBulkEntries {H : Type} : List (Lit × DataW H) → Nat
  | [] => 0
  | x :: r => uptoBulkEntry x + uptoBulkEntries r
def uptoBulkEntry {H : Type} : Lit × DataW H → Nat
  | (.string bytes, d) => bytes.length + uptoBulk d + 1
  | (_, d) => uptoBulk d + 1
 end
def uptoSmall : (H : Type) → List (DataW H) → Bool := fun _ ds => decide (uptoBulkAll ds ≤ 1048576)
def OpenSpec.upto (s : _root_.Go.ChangeSpec) : _root_.Go.OpenSpec := { _root_.Go.OpenSpec.ofChange s with cond := some uptoSmall }

/-- 'laws.FnOrdersWithin', WHERE WHAT IT READS IS OF BULK AT MOST 1048576: true; the input reads as it did. -/
def fnOrdersWithinUptoRow : OpenClaim := { program := "ytdicngjloiphkaa", sum := "7d1f8935ab1b8d038fa63a7afa2e9b11ddfd6b49d67a2c21bea802f83f85f1fc", func := "loop.example/g01098/laws.FnOrdersWithin", spec := "fnOrdersWithin", unfollowed := true, recurses := true, apart := false, narrowed := true }
def FnOrdersWithinUptoSaid : Prop := fnOrdersWithinUptoRow.holds Try.pinned (OpenSpec.upto fnOrdersWithinSpec)

/-- 'laws.FnFewestRegisters', WHERE WHAT IT READS IS OF BULK AT MOST 1048576: true; the input reads as it did. -/
def fnFewestRegistersUptoRow : OpenClaim := { program := "ytdicngjloiphkaa", sum := "7d1f8935ab1b8d038fa63a7afa2e9b11ddfd6b49d67a2c21bea802f83f85f1fc", func := "loop.example/g01098/laws.FnFewestRegisters", spec := "fnFewestRegisters", unfollowed := true, recurses := true, apart := false, narrowed := true }
def FnFewestRegistersUptoSaid : Prop := fnFewestRegistersUptoRow.holds Try.pinned (OpenSpec.upto fnFewestRegistersSpec)

/-- 'laws.FnAllocatedCode', WHERE WHAT IT READS IS OF BULK AT MOST 1048576: true; the input reads as it did. -/
def fnAllocatedCodeUptoRow : OpenClaim := { program := "ytdicngjloiphkaa", sum := "7d1f8935ab1b8d038fa63a7afa2e9b11ddfd6b49d67a2c21bea802f83f85f1fc", func := "loop.example/g01098/laws.FnAllocatedCode", spec := "fnAllocatedCode", unfollowed := true, recurses := true, apart := false, narrowed := true }
def FnAllocatedCodeUptoSaid : Prop := fnAllocatedCodeUptoRow.holds Try.pinned (OpenSpec.upto fnAllocatedCodeSpec)

/-- 'laws.FnCodesRun', WHERE WHAT IT READS IS OF BULK AT MOST 1048576: true; the input reads as it did. -/
def fnCodesRunUptoRow : OpenClaim := { program := "ytdicngjloiphkaa", sum := "7d1f8935ab1b8d038fa63a7afa2e9b11ddfd6b49d67a2c21bea802f83f85f1fc", func := "loop.example/g01098/laws.FnCodesRun", spec := "fnCodesRun", unfollowed := true, recurses := true, apart := false, narrowed := true }
def FnCodesRunUptoSaid : Prop := fnCodesRunUptoRow.holds Try.pinned (OpenSpec.upto fnCodesRunSpec)

/-- 'laws.FnMethods', WHERE WHAT IT READS IS OF BULK AT MOST 1048576: true; the input reads as it did. -/
def fnMethodsUptoRow : OpenClaim := { program := "ytdicngjloiphkaa", sum := "7d1f8935ab1b8d038fa63a7afa2e9b11ddfd6b49d67a2c21bea802f83f85f1fc", func := "loop.example/g01098/laws.FnMethods", spec := "fnMethods", unfollowed := true, recurses := true, apart := false, narrowed := true }
def FnMethodsUptoSaid : Prop := fnMethodsUptoRow.holds Try.pinned (OpenSpec.upto fnMethodsSpec)

end Rows
end Go.Proofs.Ytdicngjloiphkaa
