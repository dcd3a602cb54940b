/-
  DERIVED. GIVEN WITH THE SEED: THE CARDS: each row of YtnnlfipcoahcnaaGreatDoorRows.lean that lists a variable, with what it lists TIED to the program's text (the seventh form; the later family's looks); each row that meets fmt, with fmt's text TOLD by the authors' own Lean function (tested against real Go, not proved from fmt's source: count such statements apart). THE CARD IS WHAT COUNTS. Prove the row's statement (the work); the ties are given (YtnnlfipcoahcnaaGreatDoorTie.lean); close each card by the builder's one call (the guide's Derived/Test/ToyasCard.lean, 'card_holds'). Laid BY PROGRAM, IN A SANDBOX (cutbox-door.mjs). By AI agents, Wed Nov 11 2026. No macro, syntax, notation, axiom, sorry.
-/
import Derived.Test.YtnnlfipcoahcnaaGreatDoorRows
import GoSem.ClaimSeven
namespace Go.Proofs.YtnnlfipcoahcnaaGreatDoor
namespace Rows

/-- THE TIED CARD OF 'laws.FnTextsOfPlans'. -/
def fnTextsOfPlansCard : Claim7 := { stood := { row := fnTextsOfPlansRow, standIns := [], harness := (true, "9b26949187ff3659e93a42f8bf6bf701de01e4cc39313fb035f40b25d157f879"), looks := true }, kinds := [], alts := [], laidByText := true, laidKinds := [.data, .data, .data, .data, .sentinel, .sentinel, .pinned], laidTests := true, laidLooks := .later }
def FnTextsOfPlansCardSaid : Prop := Claim7.holds Tryz.pinned (.plain (OpenSpec.ofChange fnTextsOfPlansSpec)) fnTextsOfPlansCard

/-- THE TIED CARD OF 'laws.FnExactParseRegCode'. -/
def fnExactParseRegCodeCard : Claim7 := { stood := { row := fnExactParseRegCodeRow, standIns := [], harness := (true, "9b26949187ff3659e93a42f8bf6bf701de01e4cc39313fb035f40b25d157f879"), looks := true }, kinds := [], alts := [], laidByText := true, laidKinds := [.data, .data, .data, .data, .sentinel, .sentinel, .pinned], laidTests := true, laidLooks := .later }
def FnExactParseRegCodeCardSaid : Prop := Claim7.holds Tryz.pinned (.plain (OpenSpec.ofChange fnExactParseRegCodeSpec)) fnExactParseRegCodeCard

/-- THE TIED CARD OF 'laws.FnRenamedRegisters'. -/
def fnRenamedRegistersCard : Claim7 := { stood := { row := fnRenamedRegistersRow, standIns := [], harness := (true, "9b26949187ff3659e93a42f8bf6bf701de01e4cc39313fb035f40b25d157f879"), looks := true }, kinds := [], alts := [], laidByText := true, laidKinds := [.data, .data, .data, .data, .sentinel, .sentinel, .pinned], laidTests := true, laidLooks := .later }
def FnRenamedRegistersCardSaid : Prop := Claim7.holds Tryz.pinned (.plain (OpenSpec.ofChange fnRenamedRegistersSpec)) fnRenamedRegistersCard

/-- THE SECOND FORM's CARD OF 'laws.FnTextsOfPlans'. -/
def fnTextsOfPlansUptoCard : Claim7 := { stood := { row := fnTextsOfPlansUptoRow, standIns := [], harness := (true, "9b26949187ff3659e93a42f8bf6bf701de01e4cc39313fb035f40b25d157f879"), looks := true }, kinds := [], alts := [], laidByText := true, laidKinds := [.data, .data, .data, .data, .sentinel, .sentinel, .pinned], laidTests := true, laidLooks := .later }
def FnTextsOfPlansUptoCardSaid : Prop := Claim7.holds Tryz.pinned (.plain (OpenSpec.upto fnTextsOfPlansSpec)) fnTextsOfPlansUptoCard

/-- THE SECOND FORM's CARD OF 'laws.FnExactParseRegCode'. -/
def fnExactParseRegCodeUptoCard : Claim7 := { stood := { row := fnExactParseRegCodeUptoRow, standIns := [], harness := (true, "9b26949187ff3659e93a42f8bf6bf701de01e4cc39313fb035f40b25d157f879"), looks := true }, kinds := [], alts := [], laidByText := true, laidKinds := [.data, .data, .data, .data, .sentinel, .sentinel, .pinned], laidTests := true, laidLooks := .later }
def FnExactParseRegCodeUptoCardSaid : Prop := Claim7.holds Tryz.pinned (.plain (OpenSpec.upto fnExactParseRegCodeSpec)) fnExactParseRegCodeUptoCard

/-- THE SECOND FORM's CARD OF 'laws.FnRenamedRegisters'. -/
def fnRenamedRegistersUptoCard : Claim7 := { stood := { row := fnRenamedRegistersUptoRow, standIns := [], harness := (true, "9b26949187ff3659e93a42f8bf6bf701de01e4cc39313fb035f40b25d157f879"), looks := true }, kinds := [], alts := [], laidByText := true, laidKinds := [.data, .data, .data, .data, .sentinel, .sentinel, .pinned], laidTests := true, laidLooks := .later }
def FnRenamedRegistersUptoCardSaid : Prop := Claim7.holds Tryz.pinned (.plain (OpenSpec.upto fnRenamedRegistersSpec)) fnRenamedRegistersUptoCard
end Rows
end Go.Proofs.YtnnlfipcoahcnaaGreatDoor
