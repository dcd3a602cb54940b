/-
  No cell of these rows narrows 'for every input' (looked for: loops, veiled, ifaces, maps, wideKeys, modest, calm, conditions, laid).
  DERIVED. THE GIVEN ROWS OF THIS SEAT. 10 by the template 'for every input the law returns true; each argument reads behind the call as it read before'; 0 by the template 'total and deterministic' (their statements: YtoegbcbdiggbjaaTotals.lean).
  GIVEN WITH THE SEED: the statements are not yours to turn. If you find one false, say at which input.
  Laid BY PROGRAM, IN A SANDBOX (cutbox-rows.mjs): the forced cells as the released guide's own fill.sh prints them over the translation ac7f07ce0dd7144e… (all of the seat's roots in one cut). By AI agents, Wed Nov 11 2026. No macro, syntax, notation, axiom, sorry.
-/
import Derived.Test.YtoegbcbdiggbjaaChecked
import GoSem.Claim
import GoSem.ClaimJoined
import GoSem.ClaimMapViews
import Derived.JoinedTies
import Derived.KernelRfl
namespace Go.Proofs.Ytoegbcbdiggbjaa
/- THE CELL 'sum', in the pinned program and in every row, IS THE sha256 OF THE DUMP (.gsa) THAT YtoegbcbdiggbjaaProg.lean LOADS. Nothing in Lean hashes anything: it is a label: what it is worth is what the hold of that sum in a sandbox is worth. -/
noncomputable def Try.pinned : Pinned := { name := "ytoegbcbdiggbjaa", sum := "ac7f07ce0dd7144e8c12f99a5a3f08ed1c8e89e99bd8db84d955d9ef7a1dccd7", checked := Try.checked }
namespace Rows
def none {H : Type} : Left H := { results := [], args := [] }

/-- 'laws.FnSplitPlans': WHATEVER THE INPUT: true; the input reads as it did. -/
def fnSplitPlansSpec : ChangeSpec := { name := "fnSplitPlans", fn := fun _ => fun
  | [d1, d2] => { results := [.lit (.bool true)], args := [d1, d2] }
  | _ => none }
def fnSplitPlansRow : OpenClaim := { program := "ytoegbcbdiggbjaa", sum := "ac7f07ce0dd7144e8c12f99a5a3f08ed1c8e89e99bd8db84d955d9ef7a1dccd7", func := "loop.example/g01098/laws.FnSplitPlans", spec := "fnSplitPlans", unfollowed := true, recurses := true, apart := false }
def FnSplitPlansSaid : Prop := fnSplitPlansRow.holds Try.pinned (OpenSpec.ofChange fnSplitPlansSpec)

/-- ITS FALSE NEIGHBOUR: 'it returns false'. Refute it at one input. -/
def fnSplitPlansWrong : ChangeSpec := { name := "fnSplitPlans", fn := fun _ => fun
  | [d1, d2] => { results := [.lit (.bool false)], args := [d1, d2] }
  | _ => none }
def FnSplitPlansWrongFalsely : Prop := fnSplitPlansRow.holds Try.pinned (OpenSpec.ofChange fnSplitPlansWrong)

/-- 'laws.FnJoinedPlans': WHATEVER THE INPUT: true; the input reads as it did. -/
def fnJoinedPlansSpec : ChangeSpec := { name := "fnJoinedPlans", fn := fun _ => fun
  | [d1, d2] => { results := [.lit (.bool true)], args := [d1, d2] }
  | _ => none }
def fnJoinedPlansRow : OpenClaim := { program := "ytoegbcbdiggbjaa", sum := "ac7f07ce0dd7144e8c12f99a5a3f08ed1c8e89e99bd8db84d955d9ef7a1dccd7", func := "loop.example/g01098/laws.FnJoinedPlans", spec := "fnJoinedPlans", unfollowed := true, recurses := true, apart := false }
def FnJoinedPlansSaid : Prop := fnJoinedPlansRow.holds Try.pinned (OpenSpec.ofChange fnJoinedPlansSpec)

/-- ITS FALSE NEIGHBOUR: 'it returns false'. Refute it at one input. -/
def fnJoinedPlansWrong : ChangeSpec := { name := "fnJoinedPlans", fn := fun _ => fun
  | [d1, d2] => { results := [.lit (.bool false)], args := [d1, d2] }
  | _ => none }
def FnJoinedPlansWrongFalsely : Prop := fnJoinedPlansRow.holds Try.pinned (OpenSpec.ofChange fnJoinedPlansWrong)

/-- 'laws.FnTrimmedPlans': WHATEVER THE INPUT: true; the input reads as it did. -/
def fnTrimmedPlansSpec : ChangeSpec := { name := "fnTrimmedPlans", fn := fun _ => fun
  | [d1, d2] => { results := [.lit (.bool true)], args := [d1, d2] }
  | _ => none }
def fnTrimmedPlansRow : OpenClaim := { program := "ytoegbcbdiggbjaa", sum := "ac7f07ce0dd7144e8c12f99a5a3f08ed1c8e89e99bd8db84d955d9ef7a1dccd7", func := "loop.example/g01098/laws.FnTrimmedPlans", spec := "fnTrimmedPlans", unfollowed := true, recurses := true, apart := false }
def FnTrimmedPlansSaid : Prop := fnTrimmedPlansRow.holds Try.pinned (OpenSpec.ofChange fnTrimmedPlansSpec)

/-- ITS FALSE NEIGHBOUR: 'it returns false'. Refute it at one input. -/
def fnTrimmedPlansWrong : ChangeSpec := { name := "fnTrimmedPlans", fn := fun _ => fun
  | [d1, d2] => { results := [.lit (.bool false)], args := [d1, d2] }
  | _ => none }
def FnTrimmedPlansWrongFalsely : Prop := fnTrimmedPlansRow.holds Try.pinned (OpenSpec.ofChange fnTrimmedPlansWrong)

/-- 'laws.FnSharedPlans': WHATEVER THE INPUT: true; the input reads as it did. -/
def fnSharedPlansSpec : ChangeSpec := { name := "fnSharedPlans", fn := fun _ => fun
  | [d1, d2] => { results := [.lit (.bool true)], args := [d1, d2] }
  | _ => none }
def fnSharedPlansRow : OpenClaim := { program := "ytoegbcbdiggbjaa", sum := "ac7f07ce0dd7144e8c12f99a5a3f08ed1c8e89e99bd8db84d955d9ef7a1dccd7", func := "loop.example/g01098/laws.FnSharedPlans", spec := "fnSharedPlans", unfollowed := true, recurses := true, apart := false }
def FnSharedPlansSaid : Prop := fnSharedPlansRow.holds Try.pinned (OpenSpec.ofChange fnSharedPlansSpec)

/-- ITS FALSE NEIGHBOUR: 'it returns false'. Refute it at one input. -/
def fnSharedPlansWrong : ChangeSpec := { name := "fnSharedPlans", fn := fun _ => fun
  | [d1, d2] => { results := [.lit (.bool false)], args := [d1, d2] }
  | _ => none }
def FnSharedPlansWrongFalsely : Prop := fnSharedPlansRow.holds Try.pinned (OpenSpec.ofChange fnSharedPlansWrong)

/-- 'laws.FnReorderedPlans': WHATEVER THE INPUT: true; the input reads as it did. -/
def fnReorderedPlansSpec : ChangeSpec := { name := "fnReorderedPlans", fn := fun _ => fun
  | [d1, d2] => { results := [.lit (.bool true)], args := [d1, d2] }
  | _ => none }
def fnReorderedPlansRow : OpenClaim := { program := "ytoegbcbdiggbjaa", sum := "ac7f07ce0dd7144e8c12f99a5a3f08ed1c8e89e99bd8db84d955d9ef7a1dccd7", func := "loop.example/g01098/laws.FnReorderedPlans", spec := "fnReorderedPlans", unfollowed := true, recurses := true, apart := false }
def FnReorderedPlansSaid : Prop := fnReorderedPlansRow.holds Try.pinned (OpenSpec.ofChange fnReorderedPlansSpec)

/-- ITS FALSE NEIGHBOUR: 'it returns false'. Refute it at one input. -/
def fnReorderedPlansWrong : ChangeSpec := { name := "fnReorderedPlans", fn := fun _ => fun
  | [d1, d2] => { results := [.lit (.bool false)], args := [d1, d2] }
  | _ => none }
def FnReorderedPlansWrongFalsely : Prop := fnReorderedPlansRow.holds Try.pinned (OpenSpec.ofChange fnReorderedPlansWrong)

/-- 'laws.FnRunsOfWords': WHATEVER THE INPUT: true; the input reads as it did. -/
def fnRunsOfWordsSpec : ChangeSpec := { name := "fnRunsOfWords", fn := fun _ => fun
  | [d1, d2] => { results := [.lit (.bool true)], args := [d1, d2] }
  | _ => none }
def fnRunsOfWordsRow : OpenClaim := { program := "ytoegbcbdiggbjaa", sum := "ac7f07ce0dd7144e8c12f99a5a3f08ed1c8e89e99bd8db84d955d9ef7a1dccd7", func := "loop.example/g01098/laws.FnRunsOfWords", spec := "fnRunsOfWords", inPlace := ["internal/abi.NoEscape", "internal/bytealg.MakeNoZero"], unfollowed := true, recurses := true, apart := false }
def FnRunsOfWordsSaid : Prop := fnRunsOfWordsRow.holds Try.pinned (OpenSpec.ofChange fnRunsOfWordsSpec)

/-- ITS FALSE NEIGHBOUR: 'it returns false'. Refute it at one input. -/
def fnRunsOfWordsWrong : ChangeSpec := { name := "fnRunsOfWords", fn := fun _ => fun
  | [d1, d2] => { results := [.lit (.bool false)], args := [d1, d2] }
  | _ => none }
def FnRunsOfWordsWrongFalsely : Prop := fnRunsOfWordsRow.holds Try.pinned (OpenSpec.ofChange fnRunsOfWordsWrong)

/-- 'laws.FnRunsOfPermutations': WHATEVER THE INPUT: true; the input reads as it did. -/
def fnRunsOfPermutationsSpec : ChangeSpec := { name := "fnRunsOfPermutations", fn := fun _ => fun
  | [d1, d2] => { results := [.lit (.bool true)], args := [d1, d2] }
  | _ => none }
def fnRunsOfPermutationsRow : OpenClaim := { program := "ytoegbcbdiggbjaa", sum := "ac7f07ce0dd7144e8c12f99a5a3f08ed1c8e89e99bd8db84d955d9ef7a1dccd7", func := "loop.example/g01098/laws.FnRunsOfPermutations", spec := "fnRunsOfPermutations", unfollowed := true, recurses := true, apart := false }
def FnRunsOfPermutationsSaid : Prop := fnRunsOfPermutationsRow.holds Try.pinned (OpenSpec.ofChange fnRunsOfPermutationsSpec)

/-- ITS FALSE NEIGHBOUR: 'it returns false'. Refute it at one input. -/
def fnRunsOfPermutationsWrong : ChangeSpec := { name := "fnRunsOfPermutations", fn := fun _ => fun
  | [d1, d2] => { results := [.lit (.bool false)], args := [d1, d2] }
  | _ => none }
def FnRunsOfPermutationsWrongFalsely : Prop := fnRunsOfPermutationsRow.holds Try.pinned (OpenSpec.ofChange fnRunsOfPermutationsWrong)

/-- 'laws.FnFoldsAndCollapses': WHATEVER THE INPUT: true; the input reads as it did. -/
def fnFoldsAndCollapsesSpec : ChangeSpec := { name := "fnFoldsAndCollapses", fn := fun _ => fun
  | [d1, d2] => { results := [.lit (.bool true)], args := [d1, d2] }
  | _ => none }
def fnFoldsAndCollapsesRow : OpenClaim := { program := "ytoegbcbdiggbjaa", sum := "ac7f07ce0dd7144e8c12f99a5a3f08ed1c8e89e99bd8db84d955d9ef7a1dccd7", func := "loop.example/g01098/laws.FnFoldsAndCollapses", spec := "fnFoldsAndCollapses", unfollowed := true, recurses := true, apart := false }
def FnFoldsAndCollapsesSaid : Prop := fnFoldsAndCollapsesRow.holds Try.pinned (OpenSpec.ofChange fnFoldsAndCollapsesSpec)

/-- ITS FALSE NEIGHBOUR: 'it returns false'. Refute it at one input. -/
def fnFoldsAndCollapsesWrong : ChangeSpec := { name := "fnFoldsAndCollapses", fn := fun _ => fun
  | [d1, d2] => { results := [.lit (.bool false)], args := [d1, d2] }
  | _ => none }
def FnFoldsAndCollapsesWrongFalsely : Prop := fnFoldsAndCollapsesRow.holds Try.pinned (OpenSpec.ofChange fnFoldsAndCollapsesWrong)

/-- 'laws.FnTurnedPlans': WHATEVER THE INPUT: true; the input reads as it did. -/
def fnTurnedPlansSpec : ChangeSpec := { name := "fnTurnedPlans", fn := fun _ => fun
  | [d1, d2] => { results := [.lit (.bool true)], args := [d1, d2] }
  | _ => none }
def fnTurnedPlansRow : OpenClaim := { program := "ytoegbcbdiggbjaa", sum := "ac7f07ce0dd7144e8c12f99a5a3f08ed1c8e89e99bd8db84d955d9ef7a1dccd7", func := "loop.example/g01098/laws.FnTurnedPlans", spec := "fnTurnedPlans", unfollowed := true, recurses := true, apart := false }
def FnTurnedPlansSaid : Prop := fnTurnedPlansRow.holds Try.pinned (OpenSpec.ofChange fnTurnedPlansSpec)

/-- ITS FALSE NEIGHBOUR: 'it returns false'. Refute it at one input. -/
def fnTurnedPlansWrong : ChangeSpec := { name := "fnTurnedPlans", fn := fun _ => fun
  | [d1, d2] => { results := [.lit (.bool false)], args := [d1, d2] }
  | _ => none }
def FnTurnedPlansWrongFalsely : Prop := fnTurnedPlansRow.holds Try.pinned (OpenSpec.ofChange fnTurnedPlansWrong)

/-- 'laws.FnWindowsMakePlans': WHATEVER THE INPUT: true; the input reads as it did. -/
def fnWindowsMakePlansSpec : ChangeSpec := { name := "fnWindowsMakePlans", fn := fun _ => fun
  | [d1, d2] => { results := [.lit (.bool true)], args := [d1, d2] }
  | _ => none }
def fnWindowsMakePlansRow : OpenClaim := { program := "ytoegbcbdiggbjaa", sum := "ac7f07ce0dd7144e8c12f99a5a3f08ed1c8e89e99bd8db84d955d9ef7a1dccd7", func := "loop.example/g01098/laws.FnWindowsMakePlans", spec := "fnWindowsMakePlans", unfollowed := true, recurses := true, apart := false }
def FnWindowsMakePlansSaid : Prop := fnWindowsMakePlansRow.holds Try.pinned (OpenSpec.ofChange fnWindowsMakePlansSpec)

/-- ITS FALSE NEIGHBOUR: 'it returns false'. Refute it at one input. -/
def fnWindowsMakePlansWrong : ChangeSpec := { name := "fnWindowsMakePlans", fn := fun _ => fun
  | [d1, d2] => { results := [.lit (.bool false)], args := [d1, d2] }
  | _ => none }
def FnWindowsMakePlansWrongFalsely : Prop := fnWindowsMakePlansRow.holds Try.pinned (OpenSpec.ofChange fnWindowsMakePlansWrong)

/- THE SECOND FORM. 'bulk': how many values and letters a reading holds, each counted each time it is reached (what is shared counts as often as it is met; a slice's spare places count too). A statement '..UptoSaid' is the law's where the arguments, and the package variables that the reading takes, are together of bulk at most 1048576: NARROWER than '..Said'. Prove '..Said' where nothing that the law and all that it calls make is longer than what came in: it says more and counts as full. Else prove '..UptoSaid'. A law counts once. -/
mutual
def uptoBulk {H : Type} : DataW H → Nat
  | .lit (.string bytes) => bytes.length + 1
  | .lit _ => 1
  | .nil => 1
  | .ptr d => uptoBulk d + 1
  | .slice elems spare => uptoBulkAll elems + uptoBulkAll spare + 1
  | .agg parts => uptoBulkAll parts + 1
  | .iface _ d => uptoBulk d + 1
  | .map entries => uptoBulkEntries entries + 1
  | .held _ => 1
def uptoBulkAll {H : Type} : List (DataW H) → Nat
  | [] => 0
  | d :: r => uptoBulk d + uptoBulkAll r
def uptoBulkEntries {H : Type} : List (Lit × DataW H) → Nat
  | [] => 0
  | x :: r => uptoBulkEntry x + uptoBulkEntries r
def uptoBulkEntry {H : Type} : Lit × DataW H → Nat
  | (.string bytes, d) => bytes.length + uptoBulk d + 1
  | (_, d) => uptoBulk d + 1
 end
def uptoSmall : (H : Type) → List (DataW H) → Bool := fun _ ds => decide (uptoBulkAll ds ≤ 1048576)
def OpenSpec.upto (s : _root_.Go.ChangeSpec) : _root_.Go.OpenSpec := { _root_.Go.OpenSpec.ofChange s with cond := some uptoSmall }

/-- 'laws.FnSplitPlans', WHERE WHAT IT READS IS OF BULK AT MOST 1048576: true; the input reads as it did. -/
def fnSplitPlansUptoRow : OpenClaim := { program := "ytoegbcbdiggbjaa", sum := "ac7f07ce0dd7144e8c12f99a5a3f08ed1c8e89e99bd8db84d955d9ef7a1dccd7", func := "loop.example/g01098/laws.FnSplitPlans", spec := "fnSplitPlans", unfollowed := true, recurses := true, apart := false, narrowed := true }
def FnSplitPlansUptoSaid : Prop := fnSplitPlansUptoRow.holds Try.pinned (OpenSpec.upto fnSplitPlansSpec)

/-- 'laws.FnJoinedPlans', WHERE WHAT IT READS IS OF BULK AT MOST 1048576: true; the input reads as it did. -/
def fnJoinedPlansUptoRow : OpenClaim := { program := "ytoegbcbdiggbjaa", sum := "ac7f07ce0dd7144e8c12f99a5a3f08ed1c8e89e99bd8db84d955d9ef7a1dccd7", func := "loop.example/g01098/laws.FnJoinedPlans", spec := "fnJoinedPlans", unfollowed := true, recurses := true, apart := false, narrowed := true }
def FnJoinedPlansUptoSaid : Prop := fnJoinedPlansUptoRow.holds Try.pinned (OpenSpec.upto fnJoinedPlansSpec)

/-- 'laws.FnTrimmedPlans', WHERE WHAT IT READS IS OF BULK AT MOST 1048576: true; the input reads as it did. -/
def fnTrimmedPlansUptoRow : OpenClaim := { program := "ytoegbcbdiggbjaa", sum := "ac7f07ce0dd7144e8c12f99a5a3f08ed1c8e89e99bd8db84d955d9ef7a1dccd7", func := "loop.example/g01098/laws.FnTrimmedPlans", spec := "fnTrimmedPlans", unfollowed := true, recurses := true, apart := false, narrowed := true }
def FnTrimmedPlansUptoSaid : Prop := fnTrimmedPlansUptoRow.holds Try.pinned (OpenSpec.upto fnTrimmedPlansSpec)

/-- 'laws.FnSharedPlans', WHERE WHAT IT READS IS OF BULK AT MOST 1048576: true; the input reads as it did. -/
def fnSharedPlansUptoRow : OpenClaim := { program := "ytoegbcbdiggbjaa", sum := "ac7f07ce0dd7144e8c12f99a5a3f08ed1c8e89e99bd8db84d955d9ef7a1dccd7", func := "loop.example/g01098/laws.FnSharedPlans", spec := "fnSharedPlans", unfollowed := true, recurses := true, apart := false, narrowed := true }
def FnSharedPlansUptoSaid : Prop := fnSharedPlansUptoRow.holds Try.pinned (OpenSpec.upto fnSharedPlansSpec)

/-- 'laws.FnReorderedPlans', WHERE WHAT IT READS IS OF BULK AT MOST 1048576: true; the input reads as it did. -/
def fnReorderedPlansUptoRow : OpenClaim := { program := "ytoegbcbdiggbjaa", sum := "ac7f07ce0dd7144e8c12f99a5a3f08ed1c8e89e99bd8db84d955d9ef7a1dccd7", func := "loop.example/g01098/laws.FnReorderedPlans", spec := "fnReorderedPlans", unfollowed := true, recurses := true, apart := false, narrowed := true }
def FnReorderedPlansUptoSaid : Prop := fnReorderedPlansUptoRow.holds Try.pinned (OpenSpec.upto fnReorderedPlansSpec)

/-- 'laws.FnRunsOfWords', WHERE WHAT IT READS IS OF BULK AT MOST 1048576: true; the input reads as it did. -/
def fnRunsOfWordsUptoRow : OpenClaim := { program := "ytoegbcbdiggbjaa", sum := "ac7f07ce0dd7144e8c12f99a5a3f08ed1c8e89e99bd8db84d955d9ef7a1dccd7", func := "loop.example/g01098/laws.FnRunsOfWords", spec := "fnRunsOfWords", inPlace := ["internal/abi.NoEscape", "internal/bytealg.MakeNoZero"], unfollowed := true, recurses := true, apart := false, narrowed := true }
def FnRunsOfWordsUptoSaid : Prop := fnRunsOfWordsUptoRow.holds Try.pinned (OpenSpec.upto fnRunsOfWordsSpec)

/-- 'laws.FnRunsOfPermutations', WHERE WHAT IT READS IS OF BULK AT MOST 1048576: true; the input reads as it did. -/
def fnRunsOfPermutationsUptoRow : OpenClaim := { program := "ytoegbcbdiggbjaa", sum := "ac7f07ce0dd7144e8c12f99a5a3f08ed1c8e89e99bd8db84d955d9ef7a1dccd7", func := "loop.example/g01098/laws.FnRunsOfPermutations", spec := "fnRunsOfPermutations", unfollowed := true, recurses := true, apart := false, narrowed := true }
def FnRunsOfPermutationsUptoSaid : Prop := fnRunsOfPermutationsUptoRow.holds Try.pinned (OpenSpec.upto fnRunsOfPermutationsSpec)

/-- 'laws.FnFoldsAndCollapses', WHERE WHAT IT READS IS OF BULK AT MOST 1048576: true; the input reads as it did. -/
def fnFoldsAndCollapsesUptoRow : OpenClaim := { program := "ytoegbcbdiggbjaa", sum := "ac7f07ce0dd7144e8c12f99a5a3f08ed1c8e89e99bd8db84d955d9ef7a1dccd7", func := "loop.example/g01098/laws.FnFoldsAndCollapses", spec := "fnFoldsAndCollapses", unfollowed := true, recurses := true, apart := false, narrowed := true }
def FnFoldsAndCollapsesUptoSaid : Prop := fnFoldsAndCollapsesUptoRow.holds Try.pinned (OpenSpec.upto fnFoldsAndCollapsesSpec)

/-- 'laws.FnTurnedPlans', WHERE WHAT IT READS IS OF BULK AT MOST 1048576: true; the input reads as it did. -/
def fnTurnedPlansUptoRow : OpenClaim := { program := "ytoegbcbdiggbjaa", sum := "ac7f07ce0dd7144e8c12f99a5a3f08ed1c8e89e99bd8db84d955d9ef7a1dccd7", func := "loop.example/g01098/laws.FnTurnedPlans", spec := "fnTurnedPlans", unfollowed := true, recurses := true, apart := false, narrowed := true }
def FnTurnedPlansUptoSaid : Prop := fnTurnedPlansUptoRow.holds Try.pinned (OpenSpec.upto fnTurnedPlansSpec)

/-- 'laws.FnWindowsMakePlans', WHERE WHAT IT READS IS OF BULK AT MOST 1048576: true; the input reads as it did. -/
def fnWindowsMakePlansUptoRow : OpenClaim := { program := "ytoegbcbdiggbjaa", sum := "ac7f07ce0dd7144e8c12f99a5a3f08ed1c8e89e99bd8db84d955d9ef7a1dccd7", func := "loop.example/g01098/laws.FnWindowsMakePlans", spec := "fnWindowsMakePlans", unfollowed := true, recurses := true, apart := false, narrowed := true }
def FnWindowsMakePlansUptoSaid : Prop := fnWindowsMakePlansUptoRow.holds Try.pinned (OpenSpec.upto fnWindowsMakePlansSpec)

end Rows
end Go.Proofs.Ytoegbcbdiggbjaa
