/-
  DERIVED. GIVEN WITH THE SEED: THE CARDS: each row of YtfkbnemhkkbjgaaDoorRows.lean that lists a variable, with what it lists TIED to the program's text (the seventh form; the later family's looks); each row that meets fmt, with fmt's text TOLD by the authors' own Lean function (tested against real Go, not proved from fmt's source: count such statements apart). THE CARD IS WHAT COUNTS. Prove the row's statement (the work); the ties are given (YtfkbnemhkkbjgaaDoorTie.lean); close each card by the builder's one call (the guide's Derived/Test/ToyasCard.lean, 'card_holds'). Laid BY PROGRAM, IN A SANDBOX (cutbox-door.mjs). By AI agents, Wed Nov 11 2026. No macro, syntax, notation, axiom, sorry.
-/
import Derived.Test.YtfkbnemhkkbjgaaDoorRows
import GoSem.ClaimSeven
namespace Go.Proofs.YtfkbnemhkkbjgaaDoor
namespace Rows

/-- THE TIED CARD OF 'conduitlaw03.TopicTells'. -/
def topicTellsCard : Claim7 := { stood := { row := topicTellsRow, standIns := [], harness := (true, "75a306252059d79ebdda6992510f059d2c371b102159c89205232f0b88f10b7a"), looks := false }, kinds := [], alts := [], laidByText := true, laidKinds := [.data, .pinned], laidTests := true, laidLooks := .later }
def TopicTellsCardSaid : Prop := Claim7.holds Tryd.pinned (.plain (OpenSpec.ofChange topicTellsSpec)) topicTellsCard

/-- THE TIED CARD OF 'conduitlaw03.TopicMatches'. -/
def topicMatchesCard : Claim7 := { stood := { row := topicMatchesRow, standIns := [], harness := (true, "75a306252059d79ebdda6992510f059d2c371b102159c89205232f0b88f10b7a"), looks := false }, kinds := [], alts := [], laidByText := true, laidKinds := [.data, .pinned], laidTests := true, laidLooks := .later }
def TopicMatchesCardSaid : Prop := Claim7.holds Tryd.pinned (.plain (OpenSpec.ofChange topicMatchesSpec)) topicMatchesCard

/-- THE TIED CARD OF 'conduitlaw03.TopicCovers'. -/
def topicCoversCard : Claim7 := { stood := { row := topicCoversRow, standIns := [], harness := (true, "75a306252059d79ebdda6992510f059d2c371b102159c89205232f0b88f10b7a"), looks := false }, kinds := [], alts := [], laidByText := true, laidKinds := [.data, .pinned], laidTests := true, laidLooks := .later }
def TopicCoversCardSaid : Prop := Claim7.holds Tryd.pinned (.plain (OpenSpec.ofChange topicCoversSpec)) topicCoversCard

/-- THE TIED CARD OF 'conduitlaw03.TopicLevels'. -/
def topicLevelsCard : Claim7 := { stood := { row := topicLevelsRow, standIns := [], harness := (true, "75a306252059d79ebdda6992510f059d2c371b102159c89205232f0b88f10b7a"), looks := false }, kinds := [], alts := [], laidByText := true, laidKinds := [.data, .pinned], laidTests := true, laidLooks := .later }
def TopicLevelsCardSaid : Prop := Claim7.holds Tryd.pinned (.plain (OpenSpec.ofChange topicLevelsSpec)) topicLevelsCard

/-- THE TIED CARD OF 'conduitlaw03.TopicMeets'. -/
def topicMeetsCard : Claim7 := { stood := { row := topicMeetsRow, standIns := [], harness := (true, "75a306252059d79ebdda6992510f059d2c371b102159c89205232f0b88f10b7a"), looks := false }, kinds := [], alts := [], laidByText := true, laidKinds := [.data, .pinned], laidTests := true, laidLooks := .later }
def TopicMeetsCardSaid : Prop := Claim7.holds Tryd.pinned (.plain (OpenSpec.ofChange topicMeetsSpec)) topicMeetsCard

/-- THE TIED CARD OF 'conduitlaw03.TopicHolds'. -/
def topicHoldsCard : Claim7 := { stood := { row := topicHoldsRow, standIns := [], harness := (true, "75a306252059d79ebdda6992510f059d2c371b102159c89205232f0b88f10b7a"), looks := false }, kinds := [], alts := [], laidByText := true, laidKinds := [.data, .pinned], laidTests := true, laidLooks := .later }
def TopicHoldsCardSaid : Prop := Claim7.holds Tryd.pinned (.plain (OpenSpec.ofChange topicHoldsSpec)) topicHoldsCard

/-- THE TIED CARD OF 'conduitlaw03.TopicNames'. -/
def topicNamesCard : Claim7 := { stood := { row := topicNamesRow, standIns := [], harness := (true, "75a306252059d79ebdda6992510f059d2c371b102159c89205232f0b88f10b7a"), looks := false }, kinds := [], alts := [], laidByText := true, laidKinds := [.data, .pinned], laidTests := true, laidLooks := .later }
def TopicNamesCardSaid : Prop := Claim7.holds Tryd.pinned (.plain (OpenSpec.ofChange topicNamesSpec)) topicNamesCard

/-- THE SECOND FORM's CARD OF 'conduitlaw03.TopicTells'. -/
def topicTellsUptoCard : Claim7 := { stood := { row := topicTellsUptoRow, standIns := [], harness := (true, "75a306252059d79ebdda6992510f059d2c371b102159c89205232f0b88f10b7a"), looks := false }, kinds := [], alts := [], laidByText := true, laidKinds := [.data, .pinned], laidTests := true, laidLooks := .later }
def TopicTellsUptoCardSaid : Prop := Claim7.holds Tryd.pinned (.plain (OpenSpec.upto topicTellsSpec)) topicTellsUptoCard

/-- THE SECOND FORM's CARD OF 'conduitlaw03.TopicMatches'. -/
def topicMatchesUptoCard : Claim7 := { stood := { row := topicMatchesUptoRow, standIns := [], harness := (true, "75a306252059d79ebdda6992510f059d2c371b102159c89205232f0b88f10b7a"), looks := false }, kinds := [], alts := [], laidByText := true, laidKinds := [.data, .pinned], laidTests := true, laidLooks := .later }
def TopicMatchesUptoCardSaid : Prop := Claim7.holds Tryd.pinned (.plain (OpenSpec.upto topicMatchesSpec)) topicMatchesUptoCard

/-- THE SECOND FORM's CARD OF 'conduitlaw03.TopicCovers'. -/
def topicCoversUptoCard : Claim7 := { stood := { row := topicCoversUptoRow, standIns := [], harness := (true, "75a306252059d79ebdda6992510f059d2c371b102159c89205232f0b88f10b7a"), looks := false }, kinds := [], alts := [], laidByText := true, laidKinds := [.data, .pinned], laidTests := true, laidLooks := .later }
def TopicCoversUptoCardSaid : Prop := Claim7.holds Tryd.pinned (.plain (OpenSpec.upto topicCoversSpec)) topicCoversUptoCard

/-- THE SECOND FORM's CARD OF 'conduitlaw03.TopicLevels'. -/
def topicLevelsUptoCard : Claim7 := { stood := { row := topicLevelsUptoRow, standIns := [], harness := (true, "75a306252059d79ebdda6992510f059d2c371b102159c89205232f0b88f10b7a"), looks := false }, kinds := [], alts := [], laidByText := true, laidKinds := [.data, .pinned], laidTests := true, laidLooks := .later }
def TopicLevelsUptoCardSaid : Prop := Claim7.holds Tryd.pinned (.plain (OpenSpec.upto topicLevelsSpec)) topicLevelsUptoCard

/-- THE SECOND FORM's CARD OF 'conduitlaw03.TopicMeets'. -/
def topicMeetsUptoCard : Claim7 := { stood := { row := topicMeetsUptoRow, standIns := [], harness := (true, "75a306252059d79ebdda6992510f059d2c371b102159c89205232f0b88f10b7a"), looks := false }, kinds := [], alts := [], laidByText := true, laidKinds := [.data, .pinned], laidTests := true, laidLooks := .later }
def TopicMeetsUptoCardSaid : Prop := Claim7.holds Tryd.pinned (.plain (OpenSpec.upto topicMeetsSpec)) topicMeetsUptoCard

/-- THE SECOND FORM's CARD OF 'conduitlaw03.TopicHolds'. -/
def topicHoldsUptoCard : Claim7 := { stood := { row := topicHoldsUptoRow, standIns := [], harness := (true, "75a306252059d79ebdda6992510f059d2c371b102159c89205232f0b88f10b7a"), looks := false }, kinds := [], alts := [], laidByText := true, laidKinds := [.data, .pinned], laidTests := true, laidLooks := .later }
def TopicHoldsUptoCardSaid : Prop := Claim7.holds Tryd.pinned (.plain (OpenSpec.upto topicHoldsSpec)) topicHoldsUptoCard

/-- THE SECOND FORM's CARD OF 'conduitlaw03.TopicNames'. -/
def topicNamesUptoCard : Claim7 := { stood := { row := topicNamesUptoRow, standIns := [], harness := (true, "75a306252059d79ebdda6992510f059d2c371b102159c89205232f0b88f10b7a"), looks := false }, kinds := [], alts := [], laidByText := true, laidKinds := [.data, .pinned], laidTests := true, laidLooks := .later }
def TopicNamesUptoCardSaid : Prop := Claim7.holds Tryd.pinned (.plain (OpenSpec.upto topicNamesSpec)) topicNamesUptoCard
end Rows
end Go.Proofs.YtfkbnemhkkbjgaaDoor
