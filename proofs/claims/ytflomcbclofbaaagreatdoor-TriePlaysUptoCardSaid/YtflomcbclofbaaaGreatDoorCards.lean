/-
  DERIVED. GIVEN WITH THE SEED: THE CARDS: each row of YtflomcbclofbaaaGreatDoorRows.lean that lists a variable, with what it lists TIED to the program's text (the seventh form; the later family's looks); each row that meets fmt, with fmt's text TOLD by the authors' own Lean function (tested against real Go, not proved from fmt's source: count such statements apart). THE CARD IS WHAT COUNTS. Prove the row's statement (the work); the ties are given (YtflomcbclofbaaaGreatDoorTie.lean); close each card by the builder's one call (the guide's Derived/Test/ToyasCard.lean, 'card_holds'). Laid BY PROGRAM, IN A SANDBOX (cutbox-door.mjs). By AI agents, Wed Nov 11 2026. No macro, syntax, notation, axiom, sorry.
-/
import Derived.Test.YtflomcbclofbaaaGreatDoorRows
import GoSem.ClaimSeven
namespace Go.Proofs.YtflomcbclofbaaaGreatDoor
namespace Rows

/-- THE TIED CARD OF 'conduitlaw04.TrieOrders'. -/
def trieOrdersCard : Claim7 := { stood := { row := trieOrdersRow, standIns := [], harness := (true, "c41b3736c51ac07beabd5edf0c8d8c5ce9d4ec75912deb887d26f1cd32feb7d3"), looks := false }, kinds := [], alts := [], laidByText := true, laidKinds := [.data, .pinned], laidTests := true, laidLooks := .later }
def TrieOrdersCardSaid : Prop := Claim7.holds Tryz.pinned (.plain (OpenSpec.ofChange trieOrdersSpec)) trieOrdersCard

/-- THE TIED CARD OF 'conduitlaw04.TrieBack'. -/
def trieBackCard : Claim7 := { stood := { row := trieBackRow, standIns := [], harness := (true, "c41b3736c51ac07beabd5edf0c8d8c5ce9d4ec75912deb887d26f1cd32feb7d3"), looks := false }, kinds := [], alts := [], laidByText := true, laidKinds := [.data, .pinned], laidTests := true, laidLooks := .later }
def TrieBackCardSaid : Prop := Claim7.holds Tryz.pinned (.plain (OpenSpec.ofChange trieBackSpec)) trieBackCard

/-- THE TIED CARD OF 'conduitlaw04.TriePlays'. -/
def triePlaysCard : Claim7 := { stood := { row := triePlaysRow, standIns := [], harness := (true, "c41b3736c51ac07beabd5edf0c8d8c5ce9d4ec75912deb887d26f1cd32feb7d3"), looks := false }, kinds := [], alts := [], laidByText := true, laidKinds := [.data, .pinned], laidTests := true, laidLooks := .later }
def TriePlaysCardSaid : Prop := Claim7.holds Tryz.pinned (.plain (OpenSpec.ofChange triePlaysSpec)) triePlaysCard

/-- THE TIED CARD OF 'conduitlaw04.TrieHears'. -/
def trieHearsCard : Claim7 := { stood := { row := trieHearsRow, standIns := [], harness := (true, "c41b3736c51ac07beabd5edf0c8d8c5ce9d4ec75912deb887d26f1cd32feb7d3"), looks := false }, kinds := [], alts := [], laidByText := true, laidKinds := [.data, .pinned], laidTests := true, laidLooks := .later }
def TrieHearsCardSaid : Prop := Claim7.holds Tryz.pinned (.plain (OpenSpec.ofChange trieHearsSpec)) trieHearsCard

/-- THE SECOND FORM's CARD OF 'conduitlaw04.TrieOrders'. -/
def trieOrdersUptoCard : Claim7 := { stood := { row := trieOrdersUptoRow, standIns := [], harness := (true, "c41b3736c51ac07beabd5edf0c8d8c5ce9d4ec75912deb887d26f1cd32feb7d3"), looks := false }, kinds := [], alts := [], laidByText := true, laidKinds := [.data, .pinned], laidTests := true, laidLooks := .later }
def TrieOrdersUptoCardSaid : Prop := Claim7.holds Tryz.pinned (.plain (OpenSpec.upto trieOrdersSpec)) trieOrdersUptoCard

/-- THE SECOND FORM's CARD OF 'conduitlaw04.TrieBack'. -/
def trieBackUptoCard : Claim7 := { stood := { row := trieBackUptoRow, standIns := [], harness := (true, "c41b3736c51ac07beabd5edf0c8d8c5ce9d4ec75912deb887d26f1cd32feb7d3"), looks := false }, kinds := [], alts := [], laidByText := true, laidKinds := [.data, .pinned], laidTests := true, laidLooks := .later }
def TrieBackUptoCardSaid : Prop := Claim7.holds Tryz.pinned (.plain (OpenSpec.upto trieBackSpec)) trieBackUptoCard

/-- THE SECOND FORM's CARD OF 'conduitlaw04.TriePlays'. -/
def triePlaysUptoCard : Claim7 := { stood := { row := triePlaysUptoRow, standIns := [], harness := (true, "c41b3736c51ac07beabd5edf0c8d8c5ce9d4ec75912deb887d26f1cd32feb7d3"), looks := false }, kinds := [], alts := [], laidByText := true, laidKinds := [.data, .pinned], laidTests := true, laidLooks := .later }
def TriePlaysUptoCardSaid : Prop := Claim7.holds Tryz.pinned (.plain (OpenSpec.upto triePlaysSpec)) triePlaysUptoCard

/-- THE SECOND FORM's CARD OF 'conduitlaw04.TrieHears'. -/
def trieHearsUptoCard : Claim7 := { stood := { row := trieHearsUptoRow, standIns := [], harness := (true, "c41b3736c51ac07beabd5edf0c8d8c5ce9d4ec75912deb887d26f1cd32feb7d3"), looks := false }, kinds := [], alts := [], laidByText := true, laidKinds := [.data, .pinned], laidTests := true, laidLooks := .later }
def TrieHearsUptoCardSaid : Prop := Claim7.holds Tryz.pinned (.plain (OpenSpec.upto trieHearsSpec)) trieHearsUptoCard
end Rows
end Go.Proofs.YtflomcbclofbaaaGreatDoor
