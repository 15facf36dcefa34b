/-
  DERIVED. GIVEN WITH THE SEED: THE CARDS: each row of YtbdllefnghddcaaGreatDoorRows.lean that lists a variable, with what it lists TIED to the program's text (the seventh form; the later family's looks); each row that meets fmt, with fmt's text TOLD by the authors' own Lean function (tested against real Go, not proved from fmt's source: count such statements apart). THE CARD IS WHAT COUNTS. Prove the row's statement (the work); the ties are given (YtbdllefnghddcaaGreatDoorTie.lean); close each card by the builder's one call (the guide's Derived/Test/ToyasCard.lean, 'card_holds'). Laid BY PROGRAM, IN A SANDBOX (cutbox-door.mjs). By AI agents, Wed Nov 11 2026. No macro, syntax, notation, axiom, sorry.
-/
import Derived.Test.YtbdllefnghddcaaGreatDoorRows
import GoSem.ClaimSeven
namespace Go.Proofs.YtbdllefnghddcaaGreatDoor
namespace Rows

/-- THE TIED CARD OF 'conduitlaw07.ParseReads'. -/
def parseReadsCard : Claim7 := { stood := { row := parseReadsRow, standIns := [], harness := (true, "307d1d65d623502fe133bbb572b5349f6c115ecae51b56935ad4f19094e34f55"), looks := true }, kinds := [], alts := [], laidByText := true, laidKinds := [.data, .data, .data, .data, .sentinel, .data, .data], laidTests := true, laidLooks := .later }
def ParseReadsCardSaid : Prop := Claim7.holds Tryz.pinned (.plain (OpenSpec.ofChange parseReadsSpec)) parseReadsCard

/-- THE TIED CARD OF 'conduitlaw07.ParsePrints'. -/
def parsePrintsCard : Claim7 := { stood := { row := parsePrintsRow, standIns := [], harness := (true, "307d1d65d623502fe133bbb572b5349f6c115ecae51b56935ad4f19094e34f55"), looks := true }, kinds := [], alts := [], laidByText := true, laidKinds := [.data, .data, .data, .data, .sentinel, .data, .data], laidTests := true, laidLooks := .later }
def ParsePrintsCardSaid : Prop := Claim7.holds Tryz.pinned (.plain (OpenSpec.ofChange parsePrintsSpec)) parsePrintsCard

/-- THE TIED CARD OF 'conduitlaw07.ParseWants'. -/
def parseWantsCard : Claim7 := { stood := { row := parseWantsRow, standIns := [], harness := (true, "307d1d65d623502fe133bbb572b5349f6c115ecae51b56935ad4f19094e34f55"), looks := true }, kinds := [], alts := [], laidByText := true, laidKinds := [.data, .data, .data, .data, .sentinel, .data, .data], laidTests := true, laidLooks := .later }
def ParseWantsCardSaid : Prop := Claim7.holds Tryz.pinned (.plain (OpenSpec.ofChange parseWantsSpec)) parseWantsCard

/-- THE TIED CARD OF 'conduitlaw07.ParseSames'. -/
def parseSamesCard : Claim7 := { stood := { row := parseSamesRow, standIns := [], harness := (true, "307d1d65d623502fe133bbb572b5349f6c115ecae51b56935ad4f19094e34f55"), looks := true }, kinds := [], alts := [], laidByText := true, laidKinds := [.data, .data, .data, .data, .sentinel, .data, .data], laidTests := true, laidLooks := .later }
def ParseSamesCardSaid : Prop := Claim7.holds Tryz.pinned (.plain (OpenSpec.ofChange parseSamesSpec)) parseSamesCard

/-- THE TIED CARD OF 'conduitlaw07.ParseOneForm'. -/
def parseOneFormCard : Claim7 := { stood := { row := parseOneFormRow, standIns := [], harness := (true, "307d1d65d623502fe133bbb572b5349f6c115ecae51b56935ad4f19094e34f55"), looks := true }, kinds := [], alts := [], laidByText := true, laidKinds := [.data, .data, .data, .data, .sentinel, .data, .data], laidTests := true, laidLooks := .later }
def ParseOneFormCardSaid : Prop := Claim7.holds Tryz.pinned (.plain (OpenSpec.ofChange parseOneFormSpec)) parseOneFormCard

/-- THE TIED CARD OF 'conduitlaw07.ParseBlanks'. -/
def parseBlanksCard : Claim7 := { stood := { row := parseBlanksRow, standIns := [], harness := (true, "307d1d65d623502fe133bbb572b5349f6c115ecae51b56935ad4f19094e34f55"), looks := true }, kinds := [], alts := [], laidByText := true, laidKinds := [.data, .data, .data, .data, .sentinel, .data, .data], laidTests := true, laidLooks := .later }
def ParseBlanksCardSaid : Prop := Claim7.holds Tryz.pinned (.plain (OpenSpec.ofChange parseBlanksSpec)) parseBlanksCard

/-- THE TIED CARD OF 'conduitlaw07.ParseBack'. -/
def parseBackCard : Claim7 := { stood := { row := parseBackRow, standIns := [], harness := (true, "307d1d65d623502fe133bbb572b5349f6c115ecae51b56935ad4f19094e34f55"), looks := true }, kinds := [], alts := [], laidByText := true, laidKinds := [.data, .data, .data, .data, .sentinel, .data, .data], laidTests := true, laidLooks := .later }
def ParseBackCardSaid : Prop := Claim7.holds Tryz.pinned (.plain (OpenSpec.ofChange parseBackSpec)) parseBackCard

/-- THE SECOND FORM's CARD OF 'conduitlaw07.ParseReads'. -/
def parseReadsUptoCard : Claim7 := { stood := { row := parseReadsUptoRow, standIns := [], harness := (true, "307d1d65d623502fe133bbb572b5349f6c115ecae51b56935ad4f19094e34f55"), looks := true }, kinds := [], alts := [], laidByText := true, laidKinds := [.data, .data, .data, .data, .sentinel, .data, .data], laidTests := true, laidLooks := .later }
def ParseReadsUptoCardSaid : Prop := Claim7.holds Tryz.pinned (.plain (OpenSpec.upto parseReadsSpec)) parseReadsUptoCard

/-- THE SECOND FORM's CARD OF 'conduitlaw07.ParsePrints'. -/
def parsePrintsUptoCard : Claim7 := { stood := { row := parsePrintsUptoRow, standIns := [], harness := (true, "307d1d65d623502fe133bbb572b5349f6c115ecae51b56935ad4f19094e34f55"), looks := true }, kinds := [], alts := [], laidByText := true, laidKinds := [.data, .data, .data, .data, .sentinel, .data, .data], laidTests := true, laidLooks := .later }
def ParsePrintsUptoCardSaid : Prop := Claim7.holds Tryz.pinned (.plain (OpenSpec.upto parsePrintsSpec)) parsePrintsUptoCard

/-- THE SECOND FORM's CARD OF 'conduitlaw07.ParseWants'. -/
def parseWantsUptoCard : Claim7 := { stood := { row := parseWantsUptoRow, standIns := [], harness := (true, "307d1d65d623502fe133bbb572b5349f6c115ecae51b56935ad4f19094e34f55"), looks := true }, kinds := [], alts := [], laidByText := true, laidKinds := [.data, .data, .data, .data, .sentinel, .data, .data], laidTests := true, laidLooks := .later }
def ParseWantsUptoCardSaid : Prop := Claim7.holds Tryz.pinned (.plain (OpenSpec.upto parseWantsSpec)) parseWantsUptoCard

/-- THE SECOND FORM's CARD OF 'conduitlaw07.ParseSames'. -/
def parseSamesUptoCard : Claim7 := { stood := { row := parseSamesUptoRow, standIns := [], harness := (true, "307d1d65d623502fe133bbb572b5349f6c115ecae51b56935ad4f19094e34f55"), looks := true }, kinds := [], alts := [], laidByText := true, laidKinds := [.data, .data, .data, .data, .sentinel, .data, .data], laidTests := true, laidLooks := .later }
def ParseSamesUptoCardSaid : Prop := Claim7.holds Tryz.pinned (.plain (OpenSpec.upto parseSamesSpec)) parseSamesUptoCard

/-- THE SECOND FORM's CARD OF 'conduitlaw07.ParseOneForm'. -/
def parseOneFormUptoCard : Claim7 := { stood := { row := parseOneFormUptoRow, standIns := [], harness := (true, "307d1d65d623502fe133bbb572b5349f6c115ecae51b56935ad4f19094e34f55"), looks := true }, kinds := [], alts := [], laidByText := true, laidKinds := [.data, .data, .data, .data, .sentinel, .data, .data], laidTests := true, laidLooks := .later }
def ParseOneFormUptoCardSaid : Prop := Claim7.holds Tryz.pinned (.plain (OpenSpec.upto parseOneFormSpec)) parseOneFormUptoCard

/-- THE SECOND FORM's CARD OF 'conduitlaw07.ParseBlanks'. -/
def parseBlanksUptoCard : Claim7 := { stood := { row := parseBlanksUptoRow, standIns := [], harness := (true, "307d1d65d623502fe133bbb572b5349f6c115ecae51b56935ad4f19094e34f55"), looks := true }, kinds := [], alts := [], laidByText := true, laidKinds := [.data, .data, .data, .data, .sentinel, .data, .data], laidTests := true, laidLooks := .later }
def ParseBlanksUptoCardSaid : Prop := Claim7.holds Tryz.pinned (.plain (OpenSpec.upto parseBlanksSpec)) parseBlanksUptoCard

/-- THE SECOND FORM's CARD OF 'conduitlaw07.ParseBack'. -/
def parseBackUptoCard : Claim7 := { stood := { row := parseBackUptoRow, standIns := [], harness := (true, "307d1d65d623502fe133bbb572b5349f6c115ecae51b56935ad4f19094e34f55"), looks := true }, kinds := [], alts := [], laidByText := true, laidKinds := [.data, .data, .data, .data, .sentinel, .data, .data], laidTests := true, laidLooks := .later }
def ParseBackUptoCardSaid : Prop := Claim7.holds Tryz.pinned (.plain (OpenSpec.upto parseBackSpec)) parseBackUptoCard
end Rows
end Go.Proofs.YtbdllefnghddcaaGreatDoor
