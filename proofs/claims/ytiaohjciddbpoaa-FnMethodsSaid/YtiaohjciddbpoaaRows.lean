/-
  No cell of these rows narrows 'for every input' (looked for: loops, veiled, ifaces, maps, wideKeys, modest, calm, conditions, laid).
  DERIVED. THE GIVEN ROWS OF THIS SEAT. 7 by the template 'for every input the law returns true; each argument reads behind the call as it read before'; 0 by the template 'total and deterministic' (their statements: YtiaohjciddbpoaaTotals.lean).
  GIVEN WITH THE SEED: the statements are not yours to turn. If you find one false, say at which input.
  Laid BY PROGRAM, IN A SANDBOX (cutbox-rows.mjs): the forced cells as the released guide's own fill.sh prints them over the translation 4985a97a7a5aa2ce… (all of the seat's roots in one cut). By AI agents, Wed Nov 11 2026. No macro, syntax, notation, axiom, sorry.
-/
import Derived.Test.YtiaohjciddbpoaaChecked
import GoSem.Claim
import GoSem.ClaimJoined
import GoSem.ClaimMapViews
import Derived.JoinedTies
import Derived.KernelRfl
namespace Go.Proofs.Ytiaohjciddbpoaa
/- THE CELL 'sum', in the pinned program and in every row, IS THE sha256 OF THE DUMP (.gsa) THAT YtiaohjciddbpoaaProg.lean LOADS. Nothing in Lean hashes anything: it is a label: what it is worth is what the hold of that sum in a sandbox is worth. -/
noncomputable def Try.pinned : Pinned := { name := "ytiaohjciddbpoaa", sum := "4985a97a7a5aa2ce42d20b6d8c402184a316eb6c3ecbf23189fb645c49237e79", checked := Try.checked }
namespace Rows
def none {H : Type} : Left H := { results := [], args := [] }

/-- 'laws.FnExactWindowPlan': WHATEVER THE INPUT: true; the input reads as it did. -/
def fnExactWindowPlanSpec : ChangeSpec := { name := "fnExactWindowPlan", fn := fun _ => fun
  | [d1, d2] => { results := [.lit (.bool true)], args := [d1, d2] }
  | _ => none }
def fnExactWindowPlanRow : OpenClaim := { program := "ytiaohjciddbpoaa", sum := "4985a97a7a5aa2ce42d20b6d8c402184a316eb6c3ecbf23189fb645c49237e79", func := "loop.example/g01098/laws.FnExactWindowPlan", spec := "fnExactWindowPlan", unfollowed := true, recurses := true, apart := false }
def FnExactWindowPlanSaid : Prop := fnExactWindowPlanRow.holds Try.pinned (OpenSpec.ofChange fnExactWindowPlanSpec)

/-- ITS FALSE NEIGHBOUR: 'it returns false'. Refute it at one input. -/
def fnExactWindowPlanWrong : ChangeSpec := { name := "fnExactWindowPlan", fn := fun _ => fun
  | [d1, d2] => { results := [.lit (.bool false)], args := [d1, d2] }
  | _ => none }
def FnExactWindowPlanWrongFalsely : Prop := fnExactWindowPlanRow.holds Try.pinned (OpenSpec.ofChange fnExactWindowPlanWrong)

/-- 'laws.FnExactSlidingPlan': WHATEVER THE INPUT: true; the input reads as it did. -/
def fnExactSlidingPlanSpec : ChangeSpec := { name := "fnExactSlidingPlan", fn := fun _ => fun
  | [d1, d2] => { results := [.lit (.bool true)], args := [d1, d2] }
  | _ => none }
def fnExactSlidingPlanRow : OpenClaim := { program := "ytiaohjciddbpoaa", sum := "4985a97a7a5aa2ce42d20b6d8c402184a316eb6c3ecbf23189fb645c49237e79", func := "loop.example/g01098/laws.FnExactSlidingPlan", spec := "fnExactSlidingPlan", unfollowed := true, recurses := true, apart := false }
def FnExactSlidingPlanSaid : Prop := fnExactSlidingPlanRow.holds Try.pinned (OpenSpec.ofChange fnExactSlidingPlanSpec)

/-- ITS FALSE NEIGHBOUR: 'it returns false'. Refute it at one input. -/
def fnExactSlidingPlanWrong : ChangeSpec := { name := "fnExactSlidingPlan", fn := fun _ => fun
  | [d1, d2] => { results := [.lit (.bool false)], args := [d1, d2] }
  | _ => none }
def FnExactSlidingPlanWrongFalsely : Prop := fnExactSlidingPlanRow.holds Try.pinned (OpenSpec.ofChange fnExactSlidingPlanWrong)

/-- 'laws.FnExactMethodCosts': WHATEVER THE INPUT: true; the input reads as it did. -/
def fnExactMethodCostsSpec : ChangeSpec := { name := "fnExactMethodCosts", fn := fun _ => fun
  | [d] => { results := [.lit (.bool true)], args := [d] }
  | _ => none }
def fnExactMethodCostsRow : OpenClaim := { program := "ytiaohjciddbpoaa", sum := "4985a97a7a5aa2ce42d20b6d8c402184a316eb6c3ecbf23189fb645c49237e79", func := "loop.example/g01098/laws.FnExactMethodCosts", spec := "fnExactMethodCosts", unfollowed := true, recurses := true, apart := false }
def FnExactMethodCostsSaid : Prop := fnExactMethodCostsRow.holds Try.pinned (OpenSpec.ofChange fnExactMethodCostsSpec)

/-- ITS FALSE NEIGHBOUR: 'it returns false'. Refute it at one input. -/
def fnExactMethodCostsWrong : ChangeSpec := { name := "fnExactMethodCosts", fn := fun _ => fun
  | [d] => { results := [.lit (.bool false)], args := [d] }
  | _ => none }
def FnExactMethodCostsWrongFalsely : Prop := fnExactMethodCostsRow.holds Try.pinned (OpenSpec.ofChange fnExactMethodCostsWrong)

/-- 'laws.FnWindowsMakePlans': WHATEVER THE INPUT: true; the input reads as it did. -/
def fnWindowsMakePlansSpec : ChangeSpec := { name := "fnWindowsMakePlans", fn := fun _ => fun
  | [d1, d2] => { results := [.lit (.bool true)], args := [d1, d2] }
  | _ => none }
def fnWindowsMakePlansRow : OpenClaim := { program := "ytiaohjciddbpoaa", sum := "4985a97a7a5aa2ce42d20b6d8c402184a316eb6c3ecbf23189fb645c49237e79", func := "loop.example/g01098/laws.FnWindowsMakePlans", spec := "fnWindowsMakePlans", unfollowed := true, recurses := true, apart := false }
def FnWindowsMakePlansSaid : Prop := fnWindowsMakePlansRow.holds Try.pinned (OpenSpec.ofChange fnWindowsMakePlansSpec)

/-- ITS FALSE NEIGHBOUR: 'it returns false'. Refute it at one input. -/
def fnWindowsMakePlansWrong : ChangeSpec := { name := "fnWindowsMakePlans", fn := fun _ => fun
  | [d1, d2] => { results := [.lit (.bool false)], args := [d1, d2] }
  | _ => none }
def FnWindowsMakePlansWrongFalsely : Prop := fnWindowsMakePlansRow.holds Try.pinned (OpenSpec.ofChange fnWindowsMakePlansWrong)

/-- 'laws.FnMethods': WHATEVER THE INPUT: true; the input reads as it did. -/
def fnMethodsSpec : ChangeSpec := { name := "fnMethods", fn := fun _ => fun
  | [d1, d2] => { results := [.lit (.bool true)], args := [d1, d2] }
  | _ => none }
def fnMethodsRow : OpenClaim := { program := "ytiaohjciddbpoaa", sum := "4985a97a7a5aa2ce42d20b6d8c402184a316eb6c3ecbf23189fb645c49237e79", func := "loop.example/g01098/laws.FnMethods", spec := "fnMethods", unfollowed := true, recurses := true, apart := false }
def FnMethodsSaid : Prop := fnMethodsRow.holds Try.pinned (OpenSpec.ofChange fnMethodsSpec)

/-- ITS FALSE NEIGHBOUR: 'it returns false'. Refute it at one input. -/
def fnMethodsWrong : ChangeSpec := { name := "fnMethods", fn := fun _ => fun
  | [d1, d2] => { results := [.lit (.bool false)], args := [d1, d2] }
  | _ => none }
def FnMethodsWrongFalsely : Prop := fnMethodsRow.holds Try.pinned (OpenSpec.ofChange fnMethodsWrong)

/-- 'laws.FnExactBestPlan': WHATEVER THE INPUT: true; the input reads as it did. -/
def fnExactBestPlanSpec : ChangeSpec := { name := "fnExactBestPlan", fn := fun _ => fun
  | [d] => { results := [.lit (.bool true)], args := [d] }
  | _ => none }
def fnExactBestPlanRow : OpenClaim := { program := "ytiaohjciddbpoaa", sum := "4985a97a7a5aa2ce42d20b6d8c402184a316eb6c3ecbf23189fb645c49237e79", func := "loop.example/g01098/laws.FnExactBestPlan", spec := "fnExactBestPlan", unfollowed := true, recurses := true, apart := false }
def FnExactBestPlanSaid : Prop := fnExactBestPlanRow.holds Try.pinned (OpenSpec.ofChange fnExactBestPlanSpec)

/-- ITS FALSE NEIGHBOUR: 'it returns false'. Refute it at one input. -/
def fnExactBestPlanWrong : ChangeSpec := { name := "fnExactBestPlan", fn := fun _ => fun
  | [d] => { results := [.lit (.bool false)], args := [d] }
  | _ => none }
def FnExactBestPlanWrongFalsely : Prop := fnExactBestPlanRow.holds Try.pinned (OpenSpec.ofChange fnExactBestPlanWrong)

/-- 'laws.FnRunsOfPermutations': WHATEVER THE INPUT: true; the input reads as it did. -/
def fnRunsOfPermutationsSpec : ChangeSpec := { name := "fnRunsOfPermutations", fn := fun _ => fun
  | [d1, d2] => { results := [.lit (.bool true)], args := [d1, d2] }
  | _ => none }
def fnRunsOfPermutationsRow : OpenClaim := { program := "ytiaohjciddbpoaa", sum := "4985a97a7a5aa2ce42d20b6d8c402184a316eb6c3ecbf23189fb645c49237e79", func := "loop.example/g01098/laws.FnRunsOfPermutations", spec := "fnRunsOfPermutations", unfollowed := true, recurses := true, apart := false }
def FnRunsOfPermutationsSaid : Prop := fnRunsOfPermutationsRow.holds Try.pinned (OpenSpec.ofChange fnRunsOfPermutationsSpec)

/-- ITS FALSE NEIGHBOUR: 'it returns false'. Refute it at one input. -/
def fnRunsOfPermutationsWrong : ChangeSpec := { name := "fnRunsOfPermutations", fn := fun _ => fun
  | [d1, d2] => { results := [.lit (.bool false)], args := [d1, d2] }
  | _ => none }
def FnRunsOfPermutationsWrongFalsely : Prop := fnRunsOfPermutationsRow.holds Try.pinned (OpenSpec.ofChange fnRunsOfPermutationsWrong)

/- THE SECOND FORM. 'bulk': how many values and letters a reading holds, each counted each time it is reached (what is shared counts as often as it is met; a slice's spare places count too). A statement '..UptoSaid' is the law's where the arguments, and the package variables that the reading takes, are together of bulk at most 1048576: NARROWER than '..Said'. Prove '..Said' where nothing that the law and all that it calls make is longer than what came in: it says more and counts as full. Else prove '..UptoSaid'. A law counts once. -/
mutual
def uptoBulk {H : Type} : DataW H → Nat
  | .lit (.string bytes) => bytes.length + 1
  | .lit _ => 1
  | .nil => 1
  | .ptr d => uptoBulk d + 1
  | .slice elems spare => uptoBulkAll elems + uptoBulkAll spare + 1
  | .agg parts => uptoBulkAll parts + 1
  | .iface _ d => uptoBulk d + 1
  | .map entries => uptoBulkEntries entries + 1
  | .held _ => 1
def uptoBulkAll {H : Type} : List (DataW H) → Nat
  | [] => 0
  | d :: r => uptoBulk d + uptoBulkAll r
def uptoBulkEntries {H : Type} : List (Lit × DataW H) → Nat
  | [] => 0
  | x :: r => uptoBulkEntry x + uptoBulkEntries r
def uptoBulkEntry {H : Type} : Lit × DataW H → Nat
  | (.string bytes, d) => bytes.length + uptoBulk d + 1
  | (_, d) => uptoBulk d + 1
 end
def uptoSmall : (H : Type) → List (DataW H) → Bool := fun _ ds => decide (uptoBulkAll ds ≤ 1048576)
def OpenSpec.upto (s : _root_.Go.ChangeSpec) : _root_.Go.OpenSpec := { _root_.Go.OpenSpec.ofChange s with cond := some uptoSmall }

/-- 'laws.FnExactWindowPlan', WHERE WHAT IT READS IS OF BULK AT MOST 1048576: true; the input reads as it did. -/
def fnExactWindowPlanUptoRow : OpenClaim := { program := "ytiaohjciddbpoaa", sum := "4985a97a7a5aa2ce42d20b6d8c402184a316eb6c3ecbf23189fb645c49237e79", func := "loop.example/g01098/laws.FnExactWindowPlan", spec := "fnExactWindowPlan", unfollowed := true, recurses := true, apart := false, narrowed := true }
def FnExactWindowPlanUptoSaid : Prop := fnExactWindowPlanUptoRow.holds Try.pinned (OpenSpec.upto fnExactWindowPlanSpec)

/-- 'laws.FnExactSlidingPlan', WHERE WHAT IT READS IS OF BULK AT MOST 1048576: true; the input reads as it did. -/
def fnExactSlidingPlanUptoRow : OpenClaim := { program := "ytiaohjciddbpoaa", sum := "4985a97a7a5aa2ce42d20b6d8c402184a316eb6c3ecbf23189fb645c49237e79", func := "loop.example/g01098/laws.FnExactSlidingPlan", spec := "fnExactSlidingPlan", unfollowed := true, recurses := true, apart := false, narrowed := true }
def FnExactSlidingPlanUptoSaid : Prop := fnExactSlidingPlanUptoRow.holds Try.pinned (OpenSpec.upto fnExactSlidingPlanSpec)

/-- 'laws.FnExactMethodCosts', WHERE WHAT IT READS IS OF BULK AT MOST 1048576: true; the input reads as it did. -/
def fnExactMethodCostsUptoRow : OpenClaim := { program := "ytiaohjciddbpoaa", sum := "4985a97a7a5aa2ce42d20b6d8c402184a316eb6c3ecbf23189fb645c49237e79", func := "loop.example/g01098/laws.FnExactMethodCosts", spec := "fnExactMethodCosts", unfollowed := true, recurses := true, apart := false, narrowed := true }
def FnExactMethodCostsUptoSaid : Prop := fnExactMethodCostsUptoRow.holds Try.pinned (OpenSpec.upto fnExactMethodCostsSpec)

/-- 'laws.FnWindowsMakePlans', WHERE WHAT IT READS IS OF BULK AT MOST 1048576: true; the input reads as it did. -/
def fnWindowsMakePlansUptoRow : OpenClaim := { program := "ytiaohjciddbpoaa", sum := "4985a97a7a5aa2ce42d20b6d8c402184a316eb6c3ecbf23189fb645c49237e79", func := "loop.example/g01098/laws.FnWindowsMakePlans", spec := "fnWindowsMakePlans", unfollowed := true, recurses := true, apart := false, narrowed := true }
def FnWindowsMakePlansUptoSaid : Prop := fnWindowsMakePlansUptoRow.holds Try.pinned (OpenSpec.upto fnWindowsMakePlansSpec)

/-- 'laws.FnMethods', WHERE WHAT IT READS IS OF BULK AT MOST 1048576: true; the input reads as it did. -/
def fnMethodsUptoRow : OpenClaim := { program := "ytiaohjciddbpoaa", sum := "4985a97a7a5aa2ce42d20b6d8c402184a316eb6c3ecbf23189fb645c49237e79", func := "loop.example/g01098/laws.FnMethods", spec := "fnMethods", unfollowed := true, recurses := true, apart := false, narrowed := true }
def FnMethodsUptoSaid : Prop := fnMethodsUptoRow.holds Try.pinned (OpenSpec.upto fnMethodsSpec)

/-- 'laws.FnExactBestPlan', WHERE WHAT IT READS IS OF BULK AT MOST 1048576: true; the input reads as it did. -/
def fnExactBestPlanUptoRow : OpenClaim := { program := "ytiaohjciddbpoaa", sum := "4985a97a7a5aa2ce42d20b6d8c402184a316eb6c3ecbf23189fb645c49237e79", func := "loop.example/g01098/laws.FnExactBestPlan", spec := "fnExactBestPlan", unfollowed := true, recurses := true, apart := false, narrowed := true }
def FnExactBestPlanUptoSaid : Prop := fnExactBestPlanUptoRow.holds Try.pinned (OpenSpec.upto fnExactBestPlanSpec)

/-- 'laws.FnRunsOfPermutations', WHERE WHAT IT READS IS OF BULK AT MOST 1048576: true; the input reads as it did. -/
def fnRunsOfPermutationsUptoRow : OpenClaim := { program := "ytiaohjciddbpoaa", sum := "4985a97a7a5aa2ce42d20b6d8c402184a316eb6c3ecbf23189fb645c49237e79", func := "loop.example/g01098/laws.FnRunsOfPermutations", spec := "fnRunsOfPermutations", unfollowed := true, recurses := true, apart := false, narrowed := true }
def FnRunsOfPermutationsUptoSaid : Prop := fnRunsOfPermutationsUptoRow.holds Try.pinned (OpenSpec.upto fnRunsOfPermutationsSpec)

end Rows
end Go.Proofs.Ytiaohjciddbpoaa
