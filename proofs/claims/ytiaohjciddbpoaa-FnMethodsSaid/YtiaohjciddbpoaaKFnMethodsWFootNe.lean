-- Printed words of the kit, packed by a program of this session (wip/tools/claimpack.py): theorems that the claim doesn't name are left out.
import Derived.Test.YtiaohjciddbpoaaKFnMethodsWN
/-! ### 52. A row that stays read whatever happens to a block (a set of blocks) doesn't lie there -/
namespace Go.Proofs.YtiaohjciddbpoaaW.PrintWords
open Go.RowKit
namespace Kd
section
variable {α : Type} {d : Kd α} {W : World} {g n : Nat} {S ok : Nat → Prop} {A : Option Addr} {ad : Addr} {xs : List α}
end
end Kd
end Go.Proofs.YtiaohjciddbpoaaW.PrintWords
