/-
  No cell of these rows narrows 'for every input' (looked for: loops, veiled, ifaces, maps, wideKeys, modest, calm, conditions, laid).
  DERIVED. THE GIVEN ROWS OF THIS SEAT. 6 by the template 'for every input the law returns true; each argument reads behind the call as it read before'; 0 by the template 'total and deterministic' (their statements: YtjioedcbcdppeaaTotals.lean).
  GIVEN WITH THE SEED: the statements are not yours to turn. If you find one false, say at which input.
  Laid BY PROGRAM, IN A SANDBOX (cutbox-rows.mjs): the forced cells as the released guide's own fill.sh prints them over the translation f2c7e6c974f32ee7… (all of the seat's roots in one cut). By AI agents, Wed Nov 11 2026. No macro, syntax, notation, axiom, sorry.
-/
import Derived.Test.YtjioedcbcdppeaaChecked
import GoSem.Claim
import GoSem.ClaimJoined
import GoSem.ClaimMapViews
import Derived.JoinedTies
import Derived.KernelRfl
namespace Go.Proofs.Ytjioedcbcdppeaa
/- THE CELL 'sum', in the pinned program and in every row, IS THE sha256 OF THE DUMP (.gsa) THAT YtjioedcbcdppeaaProg.lean LOADS. Nothing in Lean hashes anything: it is a label: what it is worth is what the hold of that sum in a sandbox is worth. -/
noncomputable def Try.pinned : Pinned := { name := "ytjioedcbcdppeaa", sum := "f2c7e6c974f32ee760c70c77c0a88fa2e08bcfb00722ff69ab9c9dabb627b730", checked := Try.checked }
namespace Rows
def none {H : Type} : Left H := { results := [], args := [] }

/-- 'laws.FnExactPackRegisters': WHATEVER THE INPUT: true; the input reads as it did. -/
def fnExactPackRegistersSpec : ChangeSpec := { name := "fnExactPackRegisters", fn := fun _ => fun
  | [d] => { results := [.lit (.bool true)], args := [d] }
  | _ => none }
def fnExactPackRegistersRow : OpenClaim := { program := "ytjioedcbcdppeaa", sum := "f2c7e6c974f32ee760c70c77c0a88fa2e08bcfb00722ff69ab9c9dabb627b730", func := "loop.example/g01098/laws.FnExactPackRegisters", spec := "fnExactPackRegisters", unfollowed := true, recurses := true, apart := false }
def FnExactPackRegistersSaid : Prop := fnExactPackRegistersRow.holds Try.pinned (OpenSpec.ofChange fnExactPackRegistersSpec)

/-- ITS FALSE NEIGHBOUR: 'it returns false'. Refute it at one input. -/
def fnExactPackRegistersWrong : ChangeSpec := { name := "fnExactPackRegisters", fn := fun _ => fun
  | [d] => { results := [.lit (.bool false)], args := [d] }
  | _ => none }
def FnExactPackRegistersWrongFalsely : Prop := fnExactPackRegistersRow.holds Try.pinned (OpenSpec.ofChange fnExactPackRegistersWrong)

/-- 'laws.FnExactRenameRegisters': WHATEVER THE INPUT: true; the input reads as it did. -/
def fnExactRenameRegistersSpec : ChangeSpec := { name := "fnExactRenameRegisters", fn := fun _ => fun
  | [d1, d2] => { results := [.lit (.bool true)], args := [d1, d2] }
  | _ => none }
def fnExactRenameRegistersRow : OpenClaim := { program := "ytjioedcbcdppeaa", sum := "f2c7e6c974f32ee760c70c77c0a88fa2e08bcfb00722ff69ab9c9dabb627b730", func := "loop.example/g01098/laws.FnExactRenameRegisters", spec := "fnExactRenameRegisters", unfollowed := true, recurses := true, apart := false }
def FnExactRenameRegistersSaid : Prop := fnExactRenameRegistersRow.holds Try.pinned (OpenSpec.ofChange fnExactRenameRegistersSpec)

/-- ITS FALSE NEIGHBOUR: 'it returns false'. Refute it at one input. -/
def fnExactRenameRegistersWrong : ChangeSpec := { name := "fnExactRenameRegisters", fn := fun _ => fun
  | [d1, d2] => { results := [.lit (.bool false)], args := [d1, d2] }
  | _ => none }
def FnExactRenameRegistersWrongFalsely : Prop := fnExactRenameRegistersRow.holds Try.pinned (OpenSpec.ofChange fnExactRenameRegistersWrong)

/-- 'laws.FnExactWindowPlan': WHATEVER THE INPUT: true; the input reads as it did. -/
def fnExactWindowPlanSpec : ChangeSpec := { name := "fnExactWindowPlan", fn := fun _ => fun
  | [d1, d2] => { results := [.lit (.bool true)], args := [d1, d2] }
  | _ => none }
def fnExactWindowPlanRow : OpenClaim := { program := "ytjioedcbcdppeaa", sum := "f2c7e6c974f32ee760c70c77c0a88fa2e08bcfb00722ff69ab9c9dabb627b730", func := "loop.example/g01098/laws.FnExactWindowPlan", spec := "fnExactWindowPlan", unfollowed := true, recurses := true, apart := false }
def FnExactWindowPlanSaid : Prop := fnExactWindowPlanRow.holds Try.pinned (OpenSpec.ofChange fnExactWindowPlanSpec)

/-- ITS FALSE NEIGHBOUR: 'it returns false'. Refute it at one input. -/
def fnExactWindowPlanWrong : ChangeSpec := { name := "fnExactWindowPlan", fn := fun _ => fun
  | [d1, d2] => { results := [.lit (.bool false)], args := [d1, d2] }
  | _ => none }
def FnExactWindowPlanWrongFalsely : Prop := fnExactWindowPlanRow.holds Try.pinned (OpenSpec.ofChange fnExactWindowPlanWrong)

/-- 'laws.FnExactSlidingPlan': WHATEVER THE INPUT: true; the input reads as it did. -/
def fnExactSlidingPlanSpec : ChangeSpec := { name := "fnExactSlidingPlan", fn := fun _ => fun
  | [d1, d2] => { results := [.lit (.bool true)], args := [d1, d2] }
  | _ => none }
def fnExactSlidingPlanRow : OpenClaim := { program := "ytjioedcbcdppeaa", sum := "f2c7e6c974f32ee760c70c77c0a88fa2e08bcfb00722ff69ab9c9dabb627b730", func := "loop.example/g01098/laws.FnExactSlidingPlan", spec := "fnExactSlidingPlan", unfollowed := true, recurses := true, apart := false }
def FnExactSlidingPlanSaid : Prop := fnExactSlidingPlanRow.holds Try.pinned (OpenSpec.ofChange fnExactSlidingPlanSpec)

/-- ITS FALSE NEIGHBOUR: 'it returns false'. Refute it at one input. -/
def fnExactSlidingPlanWrong : ChangeSpec := { name := "fnExactSlidingPlan", fn := fun _ => fun
  | [d1, d2] => { results := [.lit (.bool false)], args := [d1, d2] }
  | _ => none }
def FnExactSlidingPlanWrongFalsely : Prop := fnExactSlidingPlanRow.holds Try.pinned (OpenSpec.ofChange fnExactSlidingPlanWrong)

/-- 'laws.FnExactMethodCosts': WHATEVER THE INPUT: true; the input reads as it did. -/
def fnExactMethodCostsSpec : ChangeSpec := { name := "fnExactMethodCosts", fn := fun _ => fun
  | [d] => { results := [.lit (.bool true)], args := [d] }
  | _ => none }
def fnExactMethodCostsRow : OpenClaim := { program := "ytjioedcbcdppeaa", sum := "f2c7e6c974f32ee760c70c77c0a88fa2e08bcfb00722ff69ab9c9dabb627b730", func := "loop.example/g01098/laws.FnExactMethodCosts", spec := "fnExactMethodCosts", unfollowed := true, recurses := true, apart := false }
def FnExactMethodCostsSaid : Prop := fnExactMethodCostsRow.holds Try.pinned (OpenSpec.ofChange fnExactMethodCostsSpec)

/-- ITS FALSE NEIGHBOUR: 'it returns false'. Refute it at one input. -/
def fnExactMethodCostsWrong : ChangeSpec := { name := "fnExactMethodCosts", fn := fun _ => fun
  | [d] => { results := [.lit (.bool false)], args := [d] }
  | _ => none }
def FnExactMethodCostsWrongFalsely : Prop := fnExactMethodCostsRow.holds Try.pinned (OpenSpec.ofChange fnExactMethodCostsWrong)

/-- 'laws.FnExactBestPlan': WHATEVER THE INPUT: true; the input reads as it did. -/
def fnExactBestPlanSpec : ChangeSpec := { name := "fnExactBestPlan", fn := fun _ => fun
  | [d] => { results := [.lit (.bool true)], args := [d] }
  | _ => none }
def fnExactBestPlanRow : OpenClaim := { program := "ytjioedcbcdppeaa", sum := "f2c7e6c974f32ee760c70c77c0a88fa2e08bcfb00722ff69ab9c9dabb627b730", func := "loop.example/g01098/laws.FnExactBestPlan", spec := "fnExactBestPlan", unfollowed := true, recurses := true, apart := false }
def FnExactBestPlanSaid : Prop := fnExactBestPlanRow.holds Try.pinned (OpenSpec.ofChange fnExactBestPlanSpec)

/-- ITS FALSE NEIGHBOUR: 'it returns false'. Refute it at one input. -/
def fnExactBestPlanWrong : ChangeSpec := { name := "fnExactBestPlan", fn := fun _ => fun
  | [d] => { results := [.lit (.bool false)], args := [d] }
  | _ => none }
def FnExactBestPlanWrongFalsely : Prop := fnExactBestPlanRow.holds Try.pinned (OpenSpec.ofChange fnExactBestPlanWrong)

/- THE SECOND FORM. 'bulk': how many values and letters a reading holds, each counted each time it is reached (what is shared counts as often as it is met; a slice's spare places count too). A statement '..UptoSaid' is the law's where the arguments, and the package variables that the reading takes, are together of bulk at most 1048576: NARROWER than '..Said'. Prove '..Said' where nothing that the law and all that it calls make is longer than what came in: it says more and counts as full. Else prove '..UptoSaid'. A law counts once. -/
mutual
def uptoBulk {H : Type} : DataW H → Nat
  | .lit (.string bytes) => bytes.length + 1
  | .lit _ => 1
  | .nil => 1
  | .ptr d => uptoBulk d + 1
  | .slice elems spare => uptoBulkAll elems + uptoBulkAll spare + 1
  | .agg parts => uptoBulkAll parts + 1
  | .iface _ d => uptoBulk d + 1
  | .map entries => uptoBulkEntries entries + 1
  | .held _ => 1
def uptoBulkAll {H : Type} : List (DataW H) → Nat
  | [] => 0
  | d :: r => uptoBulk d + uptoBulkAll r
def uptoBulkEntries {H : Type} : List (Lit × DataW H) → Nat
  | [] => 0
  | x :: r => uptoBulkEntry x + uptoBulkEntries r
def uptoBulkEntry {H : Type} : Lit × DataW H → Nat
  | (.string bytes, d) => bytes.length + uptoBulk d + 1
  | (_, d) => uptoBulk d + 1
 end
def uptoSmall : (H : Type) → List (DataW H) → Bool := fun _ ds => decide (uptoBulkAll ds ≤ 1048576)
def OpenSpec.upto (s : _root_.Go.ChangeSpec) : _root_.Go.OpenSpec := { _root_.Go.OpenSpec.ofChange s with cond := some uptoSmall }

/-- 'laws.FnExactPackRegisters', WHERE WHAT IT READS IS OF BULK AT MOST 1048576: true; the input reads as it did. -/
def fnExactPackRegistersUptoRow : OpenClaim := { program := "ytjioedcbcdppeaa", sum := "f2c7e6c974f32ee760c70c77c0a88fa2e08bcfb00722ff69ab9c9dabb627b730", func := "loop.example/g01098/laws.FnExactPackRegisters", spec := "fnExactPackRegisters", unfollowed := true, recurses := true, apart := false, narrowed := true }
def FnExactPackRegistersUptoSaid : Prop := fnExactPackRegistersUptoRow.holds Try.pinned (OpenSpec.upto fnExactPackRegistersSpec)

/-- 'laws.FnExactRenameRegisters', WHERE WHAT IT READS IS OF BULK AT MOST 1048576: true; the input reads as it did. -/
def fnExactRenameRegistersUptoRow : OpenClaim := { program := "ytjioedcbcdppeaa", sum := "f2c7e6c974f32ee760c70c77c0a88fa2e08bcfb00722ff69ab9c9dabb627b730", func := "loop.example/g01098/laws.FnExactRenameRegisters", spec := "fnExactRenameRegisters", unfollowed := true, recurses := true, apart := false, narrowed := true }
def FnExactRenameRegistersUptoSaid : Prop := fnExactRenameRegistersUptoRow.holds Try.pinned (OpenSpec.upto fnExactRenameRegistersSpec)

/-- 'laws.FnExactWindowPlan', WHERE WHAT IT READS IS OF BULK AT MOST 1048576: true; the input reads as it did. -/
def fnExactWindowPlanUptoRow : OpenClaim := { program := "ytjioedcbcdppeaa", sum := "f2c7e6c974f32ee760c70c77c0a88fa2e08bcfb00722ff69ab9c9dabb627b730", func := "loop.example/g01098/laws.FnExactWindowPlan", spec := "fnExactWindowPlan", unfollowed := true, recurses := true, apart := false, narrowed := true }
def FnExactWindowPlanUptoSaid : Prop := fnExactWindowPlanUptoRow.holds Try.pinned (OpenSpec.upto fnExactWindowPlanSpec)

/-- 'laws.FnExactSlidingPlan', WHERE WHAT IT READS IS OF BULK AT MOST 1048576: true; the input reads as it did. -/
def fnExactSlidingPlanUptoRow : OpenClaim := { program := "ytjioedcbcdppeaa", sum := "f2c7e6c974f32ee760c70c77c0a88fa2e08bcfb00722ff69ab9c9dabb627b730", func := "loop.example/g01098/laws.FnExactSlidingPlan", spec := "fnExactSlidingPlan", unfollowed := true, recurses := true, apart := false, narrowed := true }
def FnExactSlidingPlanUptoSaid : Prop := fnExactSlidingPlanUptoRow.holds Try.pinned (OpenSpec.upto fnExactSlidingPlanSpec)

/-- 'laws.FnExactMethodCosts', WHERE WHAT IT READS IS OF BULK AT MOST 1048576: true; the input reads as it did. -/
def fnExactMethodCostsUptoRow : OpenClaim := { program := "ytjioedcbcdppeaa", sum := "f2c7e6c974f32ee760c70c77c0a88fa2e08bcfb00722ff69ab9c9dabb627b730", func := "loop.example/g01098/laws.FnExactMethodCosts", spec := "fnExactMethodCosts", unfollowed := true, recurses := true, apart := false, narrowed := true }
def FnExactMethodCostsUptoSaid : Prop := fnExactMethodCostsUptoRow.holds Try.pinned (OpenSpec.upto fnExactMethodCostsSpec)

/-- 'laws.FnExactBestPlan', WHERE WHAT IT READS IS OF BULK AT MOST 1048576: true; the input reads as it did. -/
def fnExactBestPlanUptoRow : OpenClaim := { program := "ytjioedcbcdppeaa", sum := "f2c7e6c974f32ee760c70c77c0a88fa2e08bcfb00722ff69ab9c9dabb627b730", func := "loop.example/g01098/laws.FnExactBestPlan", spec := "fnExactBestPlan", unfollowed := true, recurses := true, apart := false, narrowed := true }
def FnExactBestPlanUptoSaid : Prop := fnExactBestPlanUptoRow.holds Try.pinned (OpenSpec.upto fnExactBestPlanSpec)

end Rows
end Go.Proofs.Ytjioedcbcdppeaa
