-- Printed words of the kit, packed by a program of this session (wip/tools/claimpack.py): theorems that the claim doesn't name are left out.
-- PRINTED WORDS (module Derived/Print/Sized.lean): go-gate-2's, for the rows of laws over slices: an AI agent of Go's test side, Tue Nov 17 2026; no person has read it. Lean checks it.
import Derived.SizedLaws
import Derived.ChangeSlices
namespace Go.Proofs.YtiaohjciddbpoaaW.PrintWords
open Go.ChangeShapes Go.WideShapes
end Go.Proofs.YtiaohjciddbpoaaW.PrintWords
