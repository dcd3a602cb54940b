-- Written by a program of this session (wip/tools/stubprint.py): contracts by hand where the kit's print has none.
import Derived.Test.YtgglemlhombgkaaProg
import Derived.Below
import Derived.Deep.Draws
import Derived.Deep.AppendLies
import Derived.Maps.AppendAt
import Derived.OwnWalk
import Derived.Laws.BytesArg
import Derived.Laws.MakeOwn
import Derived.Laws.OwnMore
import Derived.Deep.OwnRows
import Derived.Tactics
import Derived.Lib.ConvBytes
import Derived.Laws.Slices
import Derived.WalkKit
import Derived.KernelRfl
import Derived.RowKit3
import Derived.Deep.LoopGhost
import Derived.Deep.QuietTactic
import Derived.BigQuiet
import Derived.WideLaws
import Derived.Deep.DeepCutAuto
import Derived.Deep.CutBlock
import Derived.Deep.RegionHeld3
import Derived.Laws.Rows
import Derived.Lib.AppendStr
import Derived.ArgAppend
import Derived.Laws.IdiomCopy
import Derived.OrdersHeld
import Derived.Laws.BitsLemmas
import Derived.RowKit
import Derived.RangeFuncNested
import Derived.RangeFuncBound
import Derived.RangeFuncCalls
import Derived.RangeFuncLeaves
import Derived.RangeFuncFrom
import Derived.RangeFuncBox
import Derived.Shelf.Abstract
import Derived.OwnWalkIn
import Derived.TacticsInMore
import Derived.LoopNIn
import Derived.LoopIn
import Derived.WalkSpells
import Derived.Test.YtgglemlhombgkaaKFnExactValueAtWWords
import Derived.Test.YtgglemlhombgkaaKFnExactValueAtWLast
import Derived.Test.YtgglemlhombgkaaKFnExactValueAtWTab
import Derived.Test.YtgglemlhombgkaaKFnExactValueAtWFour
import Derived.Test.YtgglemlhombgkaaKFnExactValueAtWQPut
import Derived.Test.YtgglemlhombgkaaKFnExactValueAtWApart
import Derived.Test.YtgglemlhombgkaaKFnExactValueAtWArr
import Derived.Test.YtgglemlhombgkaaKFnExactValueAtWZeros
import Derived.Test.YtgglemlhombgkaaKFnExactValueAtWFoot
import Derived.Test.YtgglemlhombgkaaKFnExactValueAtWKept
import Derived.Test.YtgglemlhombgkaaKFnExactValueAtWShare
import Derived.Test.YtgglemlhombgkaaKFnExactValueAtWN
import Derived.Test.YtgglemlhombgkaaKFnExactValueAtWFootNe
import Derived.Test.YtgglemlhombgkaaKFnExactValueAtWAt
import Derived.Test.YtgglemlhombgkaaKFnExactValueAtWEqStruct
import Derived.Test.YtgglemlhombgkaaKFnExactValueAtWRepsOne
import Derived.Test.YtgglemlhombgkaaKFnExactValueAtWInv
import Derived.Test.YtgglemlhombgkaaKFnExactValueAtWInvWords
import Derived.Test.YtgglemlhombgkaaKFnExactValueAtWGuard
import Derived.Test.YtgglemlhombgkaaKFnExactValueAtWNEv
import Derived.Test.YtgglemlhombgkaaKFnExactValueAtWMore
namespace Go.Proofs.Ytgglemlhombgkaa.V
open Go.RowKit Go.Proofs.YtgglemlhombgkaaW.PrintWords Go.Proofs.YtgglemlhombgkaaW.PrintLast Go.Proofs.YtgglemlhombgkaaW.PrintMore
attribute [local go_sem] max2_int min2_int max_two min_two max_three min_three max_four min_four   -- for this text's walks alone
set_option linter.unusedVariables false
set_option linter.unusedSimpArgs false



def errW : Option Int → Value
  | none => .nilIface
  | some c => .iface 0 (.int .i64 c)
theorem errW_none : errW none = .nilIface := rfl
theorem errW_some (c : Int) : errW (some c) = .iface 0 (.int .i64 c) := rfl

theorem info3 : (Try.prog.info? 3).map (fun i => (i.zero, i.size, i.bytes)) = some (some (.int .i64 0), 1, 8) := by kernel_rfl
-- the values' own types

-- what several contracts by hand use
theorem entersAt {P : Program} {f : FuncId} {fn : Func} {c : Code} (hf : P.funcs[f]? = some fn) (hname : (fn.name == "runtime.NumGoroutine") = false) (hb : fn.body = some c) :
    ∀ (args : Array Value) (w : World), (callFunc f args).run P w = .ok (.enter f args) w := by
  intro args w
  have h1 : fn.name ≠ "runtime.NumGoroutine" := by simpa using hname
  simp [callFunc, hf, h1, hb, mark]

end Go.Proofs.Ytgglemlhombgkaa.V
