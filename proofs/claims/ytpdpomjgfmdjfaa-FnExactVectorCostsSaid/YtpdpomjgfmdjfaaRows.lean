/-
  No cell of these rows narrows 'for every input' (looked for: loops, veiled, ifaces, maps, wideKeys, modest, calm, conditions, laid).
  DERIVED. THE GIVEN ROWS OF THIS SEAT. 13 by the template 'for every input the law returns true; each argument reads behind the call as it read before'; 0 by the template 'total and deterministic' (their statements: YtpdpomjgfmdjfaaTotals.lean).
  GIVEN WITH THE SEED: the statements are not yours to turn. If you find one false, say at which input.
  Laid BY PROGRAM, IN A SANDBOX (cutbox-rows.mjs): the forced cells as the released guide's own fill.sh prints them over the translation a07b1e1af765c075… (all of the seat's roots in one cut). By AI agents, Wed Nov 11 2026. No macro, syntax, notation, axiom, sorry.
-/
import Derived.Test.YtpdpomjgfmdjfaaChecked
import GoSem.Claim
import GoSem.ClaimJoined
import GoSem.ClaimMapViews
import Derived.JoinedTies
import Derived.KernelRfl
namespace Go.Proofs.Ytpdpomjgfmdjfaa
/- THE CELL 'sum', in the pinned program and in every row, IS THE sha256 OF THE DUMP (.gsa) THAT YtpdpomjgfmdjfaaProg.lean LOADS. Nothing in Lean hashes anything: it is a label: what it is worth is what the hold of that sum in a sandbox is worth. -/
noncomputable def Try.pinned : Pinned := { name := "ytpdpomjgfmdjfaa", sum := "a07b1e1af765c075514b9d1ec543d2d65d8ecd1b8a63e6e389603da096512116", checked := Try.checked }
namespace Rows
def none {H : Type} : Left H := { results := [], args := [] }

/-- 'laws.FnExactIsRegCode': WHATEVER THE INPUT: true; the input reads as it did. -/
def fnExactIsRegCodeSpec : ChangeSpec := { name := "fnExactIsRegCode", fn := fun _ => fun
  | [d] => { results := [.lit (.bool true)], args := [d] }
  | _ => none }
def fnExactIsRegCodeRow : OpenClaim := { program := "ytpdpomjgfmdjfaa", sum := "a07b1e1af765c075514b9d1ec543d2d65d8ecd1b8a63e6e389603da096512116", func := "loop.example/g01098/laws.FnExactIsRegCode", spec := "fnExactIsRegCode", unfollowed := true, recurses := true, apart := false }
def FnExactIsRegCodeSaid : Prop := fnExactIsRegCodeRow.holds Try.pinned (OpenSpec.ofChange fnExactIsRegCodeSpec)

/-- ITS FALSE NEIGHBOUR: 'it returns false'. Refute it at one input. -/
def fnExactIsRegCodeWrong : ChangeSpec := { name := "fnExactIsRegCode", fn := fun _ => fun
  | [d] => { results := [.lit (.bool false)], args := [d] }
  | _ => none }
def FnExactIsRegCodeWrongFalsely : Prop := fnExactIsRegCodeRow.holds Try.pinned (OpenSpec.ofChange fnExactIsRegCodeWrong)

/-- 'laws.FnExactRegCodePlan': WHATEVER THE INPUT: true; the input reads as it did. -/
def fnExactRegCodePlanSpec : ChangeSpec := { name := "fnExactRegCodePlan", fn := fun _ => fun
  | [d] => { results := [.lit (.bool true)], args := [d] }
  | _ => none }
def fnExactRegCodePlanRow : OpenClaim := { program := "ytpdpomjgfmdjfaa", sum := "a07b1e1af765c075514b9d1ec543d2d65d8ecd1b8a63e6e389603da096512116", func := "loop.example/g01098/laws.FnExactRegCodePlan", spec := "fnExactRegCodePlan", unfollowed := true, recurses := true, apart := false }
def FnExactRegCodePlanSaid : Prop := fnExactRegCodePlanRow.holds Try.pinned (OpenSpec.ofChange fnExactRegCodePlanSpec)

/-- ITS FALSE NEIGHBOUR: 'it returns false'. Refute it at one input. -/
def fnExactRegCodePlanWrong : ChangeSpec := { name := "fnExactRegCodePlan", fn := fun _ => fun
  | [d] => { results := [.lit (.bool false)], args := [d] }
  | _ => none }
def FnExactRegCodePlanWrongFalsely : Prop := fnExactRegCodePlanRow.holds Try.pinned (OpenSpec.ofChange fnExactRegCodePlanWrong)

/-- 'laws.FnExactRunRegCode': WHATEVER THE INPUT: true; the input reads as it did. -/
def fnExactRunRegCodeSpec : ChangeSpec := { name := "fnExactRunRegCode", fn := fun _ => fun
  | [d1, d2, d3] => { results := [.lit (.bool true)], args := [d1, d2, d3] }
  | _ => none }
def fnExactRunRegCodeRow : OpenClaim := { program := "ytpdpomjgfmdjfaa", sum := "a07b1e1af765c075514b9d1ec543d2d65d8ecd1b8a63e6e389603da096512116", func := "loop.example/g01098/laws.FnExactRunRegCode", spec := "fnExactRunRegCode", unfollowed := true, recurses := true, apart := false }
def FnExactRunRegCodeSaid : Prop := fnExactRunRegCodeRow.holds Try.pinned (OpenSpec.ofChange fnExactRunRegCodeSpec)

/-- ITS FALSE NEIGHBOUR: 'it returns false'. Refute it at one input. -/
def fnExactRunRegCodeWrong : ChangeSpec := { name := "fnExactRunRegCode", fn := fun _ => fun
  | [d1, d2, d3] => { results := [.lit (.bool false)], args := [d1, d2, d3] }
  | _ => none }
def FnExactRunRegCodeWrongFalsely : Prop := fnExactRunRegCodeRow.holds Try.pinned (OpenSpec.ofChange fnExactRunRegCodeWrong)

/-- 'laws.FnExactCheckRegCode': WHATEVER THE INPUT: true; the input reads as it did. -/
def fnExactCheckRegCodeSpec : ChangeSpec := { name := "fnExactCheckRegCode", fn := fun _ => fun
  | [d1, d2] => { results := [.lit (.bool true)], args := [d1, d2] }
  | _ => none }
def fnExactCheckRegCodeRow : OpenClaim := { program := "ytpdpomjgfmdjfaa", sum := "a07b1e1af765c075514b9d1ec543d2d65d8ecd1b8a63e6e389603da096512116", func := "loop.example/g01098/laws.FnExactCheckRegCode", spec := "fnExactCheckRegCode", unfollowed := true, recurses := true, apart := false }
def FnExactCheckRegCodeSaid : Prop := fnExactCheckRegCodeRow.holds Try.pinned (OpenSpec.ofChange fnExactCheckRegCodeSpec)

/-- ITS FALSE NEIGHBOUR: 'it returns false'. Refute it at one input. -/
def fnExactCheckRegCodeWrong : ChangeSpec := { name := "fnExactCheckRegCode", fn := fun _ => fun
  | [d1, d2] => { results := [.lit (.bool false)], args := [d1, d2] }
  | _ => none }
def FnExactCheckRegCodeWrongFalsely : Prop := fnExactCheckRegCodeRow.holds Try.pinned (OpenSpec.ofChange fnExactCheckRegCodeWrong)

/-- 'laws.FnExactSquaresPlan': WHATEVER THE INPUT: true; the input reads as it did. -/
def fnExactSquaresPlanSpec : ChangeSpec := { name := "fnExactSquaresPlan", fn := fun _ => fun
  | [d] => { results := [.lit (.bool true)], args := [d] }
  | _ => none }
def fnExactSquaresPlanRow : OpenClaim := { program := "ytpdpomjgfmdjfaa", sum := "a07b1e1af765c075514b9d1ec543d2d65d8ecd1b8a63e6e389603da096512116", func := "loop.example/g01098/laws.FnExactSquaresPlan", spec := "fnExactSquaresPlan", unfollowed := true, recurses := true, apart := false }
def FnExactSquaresPlanSaid : Prop := fnExactSquaresPlanRow.holds Try.pinned (OpenSpec.ofChange fnExactSquaresPlanSpec)

/-- ITS FALSE NEIGHBOUR: 'it returns false'. Refute it at one input. -/
def fnExactSquaresPlanWrong : ChangeSpec := { name := "fnExactSquaresPlan", fn := fun _ => fun
  | [d] => { results := [.lit (.bool false)], args := [d] }
  | _ => none }
def FnExactSquaresPlanWrongFalsely : Prop := fnExactSquaresPlanRow.holds Try.pinned (OpenSpec.ofChange fnExactSquaresPlanWrong)

/-- 'laws.FnExactTurnPlan': WHATEVER THE INPUT: true; the input reads as it did. -/
def fnExactTurnPlanSpec : ChangeSpec := { name := "fnExactTurnPlan", fn := fun _ => fun
  | [d] => { results := [.lit (.bool true)], args := [d] }
  | _ => none }
def fnExactTurnPlanRow : OpenClaim := { program := "ytpdpomjgfmdjfaa", sum := "a07b1e1af765c075514b9d1ec543d2d65d8ecd1b8a63e6e389603da096512116", func := "loop.example/g01098/laws.FnExactTurnPlan", spec := "fnExactTurnPlan", unfollowed := true, recurses := true, apart := false }
def FnExactTurnPlanSaid : Prop := fnExactTurnPlanRow.holds Try.pinned (OpenSpec.ofChange fnExactTurnPlanSpec)

/-- ITS FALSE NEIGHBOUR: 'it returns false'. Refute it at one input. -/
def fnExactTurnPlanWrong : ChangeSpec := { name := "fnExactTurnPlan", fn := fun _ => fun
  | [d] => { results := [.lit (.bool false)], args := [d] }
  | _ => none }
def FnExactTurnPlanWrongFalsely : Prop := fnExactTurnPlanRow.holds Try.pinned (OpenSpec.ofChange fnExactTurnPlanWrong)

/-- 'laws.FnExactVectorPlan': WHATEVER THE INPUT: true; the input reads as it did. -/
def fnExactVectorPlanSpec : ChangeSpec := { name := "fnExactVectorPlan", fn := fun _ => fun
  | [d] => { results := [.lit (.bool true)], args := [d] }
  | _ => none }
def fnExactVectorPlanRow : OpenClaim := { program := "ytpdpomjgfmdjfaa", sum := "a07b1e1af765c075514b9d1ec543d2d65d8ecd1b8a63e6e389603da096512116", func := "loop.example/g01098/laws.FnExactVectorPlan", spec := "fnExactVectorPlan", unfollowed := true, recurses := true, apart := false }
def FnExactVectorPlanSaid : Prop := fnExactVectorPlanRow.holds Try.pinned (OpenSpec.ofChange fnExactVectorPlanSpec)

/-- ITS FALSE NEIGHBOUR: 'it returns false'. Refute it at one input. -/
def fnExactVectorPlanWrong : ChangeSpec := { name := "fnExactVectorPlan", fn := fun _ => fun
  | [d] => { results := [.lit (.bool false)], args := [d] }
  | _ => none }
def FnExactVectorPlanWrongFalsely : Prop := fnExactVectorPlanRow.holds Try.pinned (OpenSpec.ofChange fnExactVectorPlanWrong)

/-- 'laws.FnExactVectorCosts': WHATEVER THE INPUT: true; the input reads as it did. -/
def fnExactVectorCostsSpec : ChangeSpec := { name := "fnExactVectorCosts", fn := fun _ => fun
  | [d] => { results := [.lit (.bool true)], args := [d] }
  | _ => none }
def fnExactVectorCostsRow : OpenClaim := { program := "ytpdpomjgfmdjfaa", sum := "a07b1e1af765c075514b9d1ec543d2d65d8ecd1b8a63e6e389603da096512116", func := "loop.example/g01098/laws.FnExactVectorCosts", spec := "fnExactVectorCosts", unfollowed := true, recurses := true, apart := false }
def FnExactVectorCostsSaid : Prop := fnExactVectorCostsRow.holds Try.pinned (OpenSpec.ofChange fnExactVectorCostsSpec)

/-- ITS FALSE NEIGHBOUR: 'it returns false'. Refute it at one input. -/
def fnExactVectorCostsWrong : ChangeSpec := { name := "fnExactVectorCosts", fn := fun _ => fun
  | [d] => { results := [.lit (.bool false)], args := [d] }
  | _ => none }
def FnExactVectorCostsWrongFalsely : Prop := fnExactVectorCostsRow.holds Try.pinned (OpenSpec.ofChange fnExactVectorCostsWrong)

/-- 'laws.FnExactFactorPlan': WHATEVER THE INPUT: true; the input reads as it did. -/
def fnExactFactorPlanSpec : ChangeSpec := { name := "fnExactFactorPlan", fn := fun _ => fun
  | [d] => { results := [.lit (.bool true)], args := [d] }
  | _ => none }
def fnExactFactorPlanRow : OpenClaim := { program := "ytpdpomjgfmdjfaa", sum := "a07b1e1af765c075514b9d1ec543d2d65d8ecd1b8a63e6e389603da096512116", func := "loop.example/g01098/laws.FnExactFactorPlan", spec := "fnExactFactorPlan", unfollowed := true, recurses := true, apart := false }
def FnExactFactorPlanSaid : Prop := fnExactFactorPlanRow.holds Try.pinned (OpenSpec.ofChange fnExactFactorPlanSpec)

/-- ITS FALSE NEIGHBOUR: 'it returns false'. Refute it at one input. -/
def fnExactFactorPlanWrong : ChangeSpec := { name := "fnExactFactorPlan", fn := fun _ => fun
  | [d] => { results := [.lit (.bool false)], args := [d] }
  | _ => none }
def FnExactFactorPlanWrongFalsely : Prop := fnExactFactorPlanRow.holds Try.pinned (OpenSpec.ofChange fnExactFactorPlanWrong)

/-- 'laws.FnExactOrdersWithin': WHATEVER THE INPUT: true; the input reads as it did. -/
def fnExactOrdersWithinSpec : ChangeSpec := { name := "fnExactOrdersWithin", fn := fun _ => fun
  | [d1, d2] => { results := [.lit (.bool true)], args := [d1, d2] }
  | _ => none }
def fnExactOrdersWithinRow : OpenClaim := { program := "ytpdpomjgfmdjfaa", sum := "a07b1e1af765c075514b9d1ec543d2d65d8ecd1b8a63e6e389603da096512116", func := "loop.example/g01098/laws.FnExactOrdersWithin", spec := "fnExactOrdersWithin", unfollowed := true, recurses := true, apart := false }
def FnExactOrdersWithinSaid : Prop := fnExactOrdersWithinRow.holds Try.pinned (OpenSpec.ofChange fnExactOrdersWithinSpec)

/-- ITS FALSE NEIGHBOUR: 'it returns false'. Refute it at one input. -/
def fnExactOrdersWithinWrong : ChangeSpec := { name := "fnExactOrdersWithin", fn := fun _ => fun
  | [d1, d2] => { results := [.lit (.bool false)], args := [d1, d2] }
  | _ => none }
def FnExactOrdersWithinWrongFalsely : Prop := fnExactOrdersWithinRow.holds Try.pinned (OpenSpec.ofChange fnExactOrdersWithinWrong)

/-- 'laws.FnExactFewestRegisters': WHATEVER THE INPUT: true; the input reads as it did. -/
def fnExactFewestRegistersSpec : ChangeSpec := { name := "fnExactFewestRegisters", fn := fun _ => fun
  | [d] => { results := [.lit (.bool true)], args := [d] }
  | _ => none }
def fnExactFewestRegistersRow : OpenClaim := { program := "ytpdpomjgfmdjfaa", sum := "a07b1e1af765c075514b9d1ec543d2d65d8ecd1b8a63e6e389603da096512116", func := "loop.example/g01098/laws.FnExactFewestRegisters", spec := "fnExactFewestRegisters", unfollowed := true, recurses := true, apart := false }
def FnExactFewestRegistersSaid : Prop := fnExactFewestRegistersRow.holds Try.pinned (OpenSpec.ofChange fnExactFewestRegistersSpec)

/-- ITS FALSE NEIGHBOUR: 'it returns false'. Refute it at one input. -/
def fnExactFewestRegistersWrong : ChangeSpec := { name := "fnExactFewestRegisters", fn := fun _ => fun
  | [d] => { results := [.lit (.bool false)], args := [d] }
  | _ => none }
def FnExactFewestRegistersWrongFalsely : Prop := fnExactFewestRegistersRow.holds Try.pinned (OpenSpec.ofChange fnExactFewestRegistersWrong)

/-- 'laws.FnExactBestOrder': WHATEVER THE INPUT: true; the input reads as it did. -/
def fnExactBestOrderSpec : ChangeSpec := { name := "fnExactBestOrder", fn := fun _ => fun
  | [d] => { results := [.lit (.bool true)], args := [d] }
  | _ => none }
def fnExactBestOrderRow : OpenClaim := { program := "ytpdpomjgfmdjfaa", sum := "a07b1e1af765c075514b9d1ec543d2d65d8ecd1b8a63e6e389603da096512116", func := "loop.example/g01098/laws.FnExactBestOrder", spec := "fnExactBestOrder", unfollowed := true, recurses := true, apart := false }
def FnExactBestOrderSaid : Prop := fnExactBestOrderRow.holds Try.pinned (OpenSpec.ofChange fnExactBestOrderSpec)

/-- ITS FALSE NEIGHBOUR: 'it returns false'. Refute it at one input. -/
def fnExactBestOrderWrong : ChangeSpec := { name := "fnExactBestOrder", fn := fun _ => fun
  | [d] => { results := [.lit (.bool false)], args := [d] }
  | _ => none }
def FnExactBestOrderWrongFalsely : Prop := fnExactBestOrderRow.holds Try.pinned (OpenSpec.ofChange fnExactBestOrderWrong)

/-- 'laws.FnExactAllocatePlan': WHATEVER THE INPUT: true; the input reads as it did. -/
def fnExactAllocatePlanSpec : ChangeSpec := { name := "fnExactAllocatePlan", fn := fun _ => fun
  | [d] => { results := [.lit (.bool true)], args := [d] }
  | _ => none }
def fnExactAllocatePlanRow : OpenClaim := { program := "ytpdpomjgfmdjfaa", sum := "a07b1e1af765c075514b9d1ec543d2d65d8ecd1b8a63e6e389603da096512116", func := "loop.example/g01098/laws.FnExactAllocatePlan", spec := "fnExactAllocatePlan", unfollowed := true, recurses := true, apart := false }
def FnExactAllocatePlanSaid : Prop := fnExactAllocatePlanRow.holds Try.pinned (OpenSpec.ofChange fnExactAllocatePlanSpec)

/-- ITS FALSE NEIGHBOUR: 'it returns false'. Refute it at one input. -/
def fnExactAllocatePlanWrong : ChangeSpec := { name := "fnExactAllocatePlan", fn := fun _ => fun
  | [d] => { results := [.lit (.bool false)], args := [d] }
  | _ => none }
def FnExactAllocatePlanWrongFalsely : Prop := fnExactAllocatePlanRow.holds Try.pinned (OpenSpec.ofChange fnExactAllocatePlanWrong)

/- THE SECOND FORM. 'bulk': how many values and letters a reading holds, each counted each time it is reached (what is shared counts as often as it is met; a slice's spare places count too). A statement '..UptoSaid' is the law's where the arguments, and the package variables that the reading takes, are together of bulk at most 1048576: NARROWER than '..Said'. Prove '..Said' where nothing that the law and all that it calls make is longer than what came in: it says more and counts as full. Else prove '..UptoSaid'. A law counts once. -/
mutual
def uptoBulk {H : Type} : DataW H → Nat
  | .lit (.string bytes) => bytes.length + 1
  | .lit _ => 1
  | .nil => 1
  | .ptr d => uptoBulk d + 1
  | .slice elems spare => uptoBulkAll elems + uptoBulkAll spare + 1
  | .agg parts => uptoBulkAll parts + 1
  | .iface _ d => uptoBulk d + 1
  | .map entries => uptoBulkEntries entries + 1
  | .held _ => 1
def uptoBulkAll {H : Type} : List (DataW H) → Nat
  | [] => 0
  | d :: r => uptoBulk d + uptoBulkAll r
def uptoBulkEntries {H : Type} : List (Lit × DataW H) → Nat
  | [] => 0
  | x :: r => uptoBulkEntry x + uptoBulkEntries r
def uptoBulkEntry {H : Type} : Lit × DataW H → Nat
  | (.string bytes, d) => bytes.length + uptoBulk d + 1
  | (_, d) => uptoBulk d + 1
 end
def uptoSmall : (H : Type) → List (DataW H) → Bool := fun _ ds => decide (uptoBulkAll ds ≤ 1048576)
def OpenSpec.upto (s : _root_.Go.ChangeSpec) : _root_.Go.OpenSpec := { _root_.Go.OpenSpec.ofChange s with cond := some uptoSmall }

/-- 'laws.FnExactIsRegCode', WHERE WHAT IT READS IS OF BULK AT MOST 1048576: true; the input reads as it did. -/
def fnExactIsRegCodeUptoRow : OpenClaim := { program := "ytpdpomjgfmdjfaa", sum := "a07b1e1af765c075514b9d1ec543d2d65d8ecd1b8a63e6e389603da096512116", func := "loop.example/g01098/laws.FnExactIsRegCode", spec := "fnExactIsRegCode", unfollowed := true, recurses := true, apart := false, narrowed := true }
def FnExactIsRegCodeUptoSaid : Prop := fnExactIsRegCodeUptoRow.holds Try.pinned (OpenSpec.upto fnExactIsRegCodeSpec)

/-- 'laws.FnExactRegCodePlan', WHERE WHAT IT READS IS OF BULK AT MOST 1048576: true; the input reads as it did. -/
def fnExactRegCodePlanUptoRow : OpenClaim := { program := "ytpdpomjgfmdjfaa", sum := "a07b1e1af765c075514b9d1ec543d2d65d8ecd1b8a63e6e389603da096512116", func := "loop.example/g01098/laws.FnExactRegCodePlan", spec := "fnExactRegCodePlan", unfollowed := true, recurses := true, apart := false, narrowed := true }
def FnExactRegCodePlanUptoSaid : Prop := fnExactRegCodePlanUptoRow.holds Try.pinned (OpenSpec.upto fnExactRegCodePlanSpec)

/-- 'laws.FnExactRunRegCode', WHERE WHAT IT READS IS OF BULK AT MOST 1048576: true; the input reads as it did. -/
def fnExactRunRegCodeUptoRow : OpenClaim := { program := "ytpdpomjgfmdjfaa", sum := "a07b1e1af765c075514b9d1ec543d2d65d8ecd1b8a63e6e389603da096512116", func := "loop.example/g01098/laws.FnExactRunRegCode", spec := "fnExactRunRegCode", unfollowed := true, recurses := true, apart := false, narrowed := true }
def FnExactRunRegCodeUptoSaid : Prop := fnExactRunRegCodeUptoRow.holds Try.pinned (OpenSpec.upto fnExactRunRegCodeSpec)

/-- 'laws.FnExactCheckRegCode', WHERE WHAT IT READS IS OF BULK AT MOST 1048576: true; the input reads as it did. -/
def fnExactCheckRegCodeUptoRow : OpenClaim := { program := "ytpdpomjgfmdjfaa", sum := "a07b1e1af765c075514b9d1ec543d2d65d8ecd1b8a63e6e389603da096512116", func := "loop.example/g01098/laws.FnExactCheckRegCode", spec := "fnExactCheckRegCode", unfollowed := true, recurses := true, apart := false, narrowed := true }
def FnExactCheckRegCodeUptoSaid : Prop := fnExactCheckRegCodeUptoRow.holds Try.pinned (OpenSpec.upto fnExactCheckRegCodeSpec)

/-- 'laws.FnExactSquaresPlan', WHERE WHAT IT READS IS OF BULK AT MOST 1048576: true; the input reads as it did. -/
def fnExactSquaresPlanUptoRow : OpenClaim := { program := "ytpdpomjgfmdjfaa", sum := "a07b1e1af765c075514b9d1ec543d2d65d8ecd1b8a63e6e389603da096512116", func := "loop.example/g01098/laws.FnExactSquaresPlan", spec := "fnExactSquaresPlan", unfollowed := true, recurses := true, apart := false, narrowed := true }
def FnExactSquaresPlanUptoSaid : Prop := fnExactSquaresPlanUptoRow.holds Try.pinned (OpenSpec.upto fnExactSquaresPlanSpec)

/-- 'laws.FnExactTurnPlan', WHERE WHAT IT READS IS OF BULK AT MOST 1048576: true; the input reads as it did. -/
def fnExactTurnPlanUptoRow : OpenClaim := { program := "ytpdpomjgfmdjfaa", sum := "a07b1e1af765c075514b9d1ec543d2d65d8ecd1b8a63e6e389603da096512116", func := "loop.example/g01098/laws.FnExactTurnPlan", spec := "fnExactTurnPlan", unfollowed := true, recurses := true, apart := false, narrowed := true }
def FnExactTurnPlanUptoSaid : Prop := fnExactTurnPlanUptoRow.holds Try.pinned (OpenSpec.upto fnExactTurnPlanSpec)

/-- 'laws.FnExactVectorPlan', WHERE WHAT IT READS IS OF BULK AT MOST 1048576: true; the input reads as it did. -/
def fnExactVectorPlanUptoRow : OpenClaim := { program := "ytpdpomjgfmdjfaa", sum := "a07b1e1af765c075514b9d1ec543d2d65d8ecd1b8a63e6e389603da096512116", func := "loop.example/g01098/laws.FnExactVectorPlan", spec := "fnExactVectorPlan", unfollowed := true, recurses := true, apart := false, narrowed := true }
def FnExactVectorPlanUptoSaid : Prop := fnExactVectorPlanUptoRow.holds Try.pinned (OpenSpec.upto fnExactVectorPlanSpec)

/-- 'laws.FnExactVectorCosts', WHERE WHAT IT READS IS OF BULK AT MOST 1048576: true; the input reads as it did. -/
def fnExactVectorCostsUptoRow : OpenClaim := { program := "ytpdpomjgfmdjfaa", sum := "a07b1e1af765c075514b9d1ec543d2d65d8ecd1b8a63e6e389603da096512116", func := "loop.example/g01098/laws.FnExactVectorCosts", spec := "fnExactVectorCosts", unfollowed := true, recurses := true, apart := false, narrowed := true }
def FnExactVectorCostsUptoSaid : Prop := fnExactVectorCostsUptoRow.holds Try.pinned (OpenSpec.upto fnExactVectorCostsSpec)

/-- 'laws.FnExactFactorPlan', WHERE WHAT IT READS IS OF BULK AT MOST 1048576: true; the input reads as it did. -/
def fnExactFactorPlanUptoRow : OpenClaim := { program := "ytpdpomjgfmdjfaa", sum := "a07b1e1af765c075514b9d1ec543d2d65d8ecd1b8a63e6e389603da096512116", func := "loop.example/g01098/laws.FnExactFactorPlan", spec := "fnExactFactorPlan", unfollowed := true, recurses := true, apart := false, narrowed := true }
def FnExactFactorPlanUptoSaid : Prop := fnExactFactorPlanUptoRow.holds Try.pinned (OpenSpec.upto fnExactFactorPlanSpec)

/-- 'laws.FnExactOrdersWithin', WHERE WHAT IT READS IS OF BULK AT MOST 1048576: true; the input reads as it did. -/
def fnExactOrdersWithinUptoRow : OpenClaim := { program := "ytpdpomjgfmdjfaa", sum := "a07b1e1af765c075514b9d1ec543d2d65d8ecd1b8a63e6e389603da096512116", func := "loop.example/g01098/laws.FnExactOrdersWithin", spec := "fnExactOrdersWithin", unfollowed := true, recurses := true, apart := false, narrowed := true }
def FnExactOrdersWithinUptoSaid : Prop := fnExactOrdersWithinUptoRow.holds Try.pinned (OpenSpec.upto fnExactOrdersWithinSpec)

/-- 'laws.FnExactFewestRegisters', WHERE WHAT IT READS IS OF BULK AT MOST 1048576: true; the input reads as it did. -/
def fnExactFewestRegistersUptoRow : OpenClaim := { program := "ytpdpomjgfmdjfaa", sum := "a07b1e1af765c075514b9d1ec543d2d65d8ecd1b8a63e6e389603da096512116", func := "loop.example/g01098/laws.FnExactFewestRegisters", spec := "fnExactFewestRegisters", unfollowed := true, recurses := true, apart := false, narrowed := true }
def FnExactFewestRegistersUptoSaid : Prop := fnExactFewestRegistersUptoRow.holds Try.pinned (OpenSpec.upto fnExactFewestRegistersSpec)

/-- 'laws.FnExactBestOrder', WHERE WHAT IT READS IS OF BULK AT MOST 1048576: true; the input reads as it did. -/
def fnExactBestOrderUptoRow : OpenClaim := { program := "ytpdpomjgfmdjfaa", sum := "a07b1e1af765c075514b9d1ec543d2d65d8ecd1b8a63e6e389603da096512116", func := "loop.example/g01098/laws.FnExactBestOrder", spec := "fnExactBestOrder", unfollowed := true, recurses := true, apart := false, narrowed := true }
def FnExactBestOrderUptoSaid : Prop := fnExactBestOrderUptoRow.holds Try.pinned (OpenSpec.upto fnExactBestOrderSpec)

/-- 'laws.FnExactAllocatePlan', WHERE WHAT IT READS IS OF BULK AT MOST 1048576: true; the input reads as it did. -/
def fnExactAllocatePlanUptoRow : OpenClaim := { program := "ytpdpomjgfmdjfaa", sum := "a07b1e1af765c075514b9d1ec543d2d65d8ecd1b8a63e6e389603da096512116", func := "loop.example/g01098/laws.FnExactAllocatePlan", spec := "fnExactAllocatePlan", unfollowed := true, recurses := true, apart := false, narrowed := true }
def FnExactAllocatePlanUptoSaid : Prop := fnExactAllocatePlanUptoRow.holds Try.pinned (OpenSpec.upto fnExactAllocatePlanSpec)

end Rows
end Go.Proofs.Ytpdpomjgfmdjfaa
