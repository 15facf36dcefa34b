/-
  DERIVED. GIVEN WITH THE SEED: THE CARDS: each row of YtflomcbclofbaaaDoorRows.lean that lists a variable, with what it lists TIED to the program's text (the seventh form; the later family's looks); each row that meets fmt, with fmt's text TOLD by the authors' own Lean function (tested against real Go, not proved from fmt's source: count such statements apart). THE CARD IS WHAT COUNTS. Prove the row's statement (the work); the ties are given (YtflomcbclofbaaaDoorTie.lean); close each card by the builder's one call (the guide's Derived/Test/ToyasCard.lean, 'card_holds'). Laid BY PROGRAM, IN A SANDBOX (cutbox-door.mjs). By AI agents, Wed Nov 11 2026. No macro, syntax, notation, axiom, sorry.
-/
import Derived.Test.YtflomcbclofbaaaDoorRows
import GoSem.ClaimSeven
namespace Go.Proofs.YtflomcbclofbaaaDoor
namespace Rows

/-- THE TIED CARD OF 'conduitlaw04.TrieCovered'. -/
def trieCoveredCard : Claim7 := { stood := { row := trieCoveredRow, standIns := [], harness := (true, "5b39a0a14020c46a7b2176a53cf94e154b0da7a0e8b7625f9d57c02404a5cfd1"), looks := false }, kinds := [], alts := [], laidByText := true, laidKinds := [.data, .pinned], laidTests := true, laidLooks := .later }
def TrieCoveredCardSaid : Prop := Claim7.holds Tryd.pinned (.plain (OpenSpec.ofChange trieCoveredSpec)) trieCoveredCard

/-- THE TIED CARD OF 'conduitlaw04.TrieNobody'. -/
def trieNobodyCard : Claim7 := { stood := { row := trieNobodyRow, standIns := [], harness := (true, "5b39a0a14020c46a7b2176a53cf94e154b0da7a0e8b7625f9d57c02404a5cfd1"), looks := false }, kinds := [], alts := [], laidByText := true, laidKinds := [.data, .pinned], laidTests := true, laidLooks := .later }
def TrieNobodyCardSaid : Prop := Claim7.holds Tryd.pinned (.plain (OpenSpec.ofChange trieNobodySpec)) trieNobodyCard

/-- THE SECOND FORM's CARD OF 'conduitlaw04.TrieCovered'. -/
def trieCoveredUptoCard : Claim7 := { stood := { row := trieCoveredUptoRow, standIns := [], harness := (true, "5b39a0a14020c46a7b2176a53cf94e154b0da7a0e8b7625f9d57c02404a5cfd1"), looks := false }, kinds := [], alts := [], laidByText := true, laidKinds := [.data, .pinned], laidTests := true, laidLooks := .later }
def TrieCoveredUptoCardSaid : Prop := Claim7.holds Tryd.pinned (.plain (OpenSpec.upto trieCoveredSpec)) trieCoveredUptoCard

/-- THE SECOND FORM's CARD OF 'conduitlaw04.TrieNobody'. -/
def trieNobodyUptoCard : Claim7 := { stood := { row := trieNobodyUptoRow, standIns := [], harness := (true, "5b39a0a14020c46a7b2176a53cf94e154b0da7a0e8b7625f9d57c02404a5cfd1"), looks := false }, kinds := [], alts := [], laidByText := true, laidKinds := [.data, .pinned], laidTests := true, laidLooks := .later }
def TrieNobodyUptoCardSaid : Prop := Claim7.holds Tryd.pinned (.plain (OpenSpec.upto trieNobodySpec)) trieNobodyUptoCard
end Rows
end Go.Proofs.YtflomcbclofbaaaDoor
