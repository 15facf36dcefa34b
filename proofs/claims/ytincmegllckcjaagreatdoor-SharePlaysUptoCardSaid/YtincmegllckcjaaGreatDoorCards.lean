/-
  DERIVED. GIVEN WITH THE SEED: THE CARDS: each row of YtincmegllckcjaaGreatDoorRows.lean that lists a variable, with what it lists TIED to the program's text (the seventh form; the later family's looks); each row that meets fmt, with fmt's text TOLD by the authors' own Lean function (tested against real Go, not proved from fmt's source: count such statements apart). THE CARD IS WHAT COUNTS. Prove the row's statement (the work); the ties are given (YtincmegllckcjaaGreatDoorTie.lean); close each card by the builder's one call (the guide's Derived/Test/ToyasCard.lean, 'card_holds'). Laid BY PROGRAM, IN A SANDBOX (cutbox-door.mjs). By AI agents, Wed Nov 11 2026. No macro, syntax, notation, axiom, sorry.
-/
import Derived.Test.YtincmegllckcjaaGreatDoorRows
import GoSem.ClaimSeven
namespace Go.Proofs.YtincmegllckcjaaGreatDoor
namespace Rows

/-- THE TIED CARD OF 'conduitlaw30.ShareFair'. -/
def shareFairCard : Claim7 := { stood := { row := shareFairRow, standIns := [], harness := (true, "0789c05d1d41afc94d38b29715800e993dd35e07b35b86a12c713ff833efd4e8"), looks := false }, kinds := [], alts := [], laidByText := true, laidKinds := [.data, .pinned], laidTests := true, laidLooks := .later }
def ShareFairCardSaid : Prop := Claim7.holds Tryz.pinned (.plain (OpenSpec.ofChange shareFairSpec)) shareFairCard

/-- THE TIED CARD OF 'conduitlaw30.ShareKeeps'. -/
def shareKeepsCard : Claim7 := { stood := { row := shareKeepsRow, standIns := [], harness := (true, "0789c05d1d41afc94d38b29715800e993dd35e07b35b86a12c713ff833efd4e8"), looks := false }, kinds := [], alts := [], laidByText := true, laidKinds := [.data, .pinned], laidTests := true, laidLooks := .later }
def ShareKeepsCardSaid : Prop := Claim7.holds Tryz.pinned (.plain (OpenSpec.ofChange shareKeepsSpec)) shareKeepsCard

/-- THE TIED CARD OF 'conduitlaw30.SharePlays'. -/
def sharePlaysCard : Claim7 := { stood := { row := sharePlaysRow, standIns := [], harness := (true, "0789c05d1d41afc94d38b29715800e993dd35e07b35b86a12c713ff833efd4e8"), looks := false }, kinds := [], alts := [], laidByText := true, laidKinds := [.data, .pinned], laidTests := true, laidLooks := .later }
def SharePlaysCardSaid : Prop := Claim7.holds Tryz.pinned (.plain (OpenSpec.ofChange sharePlaysSpec)) sharePlaysCard

/-- THE TIED CARD OF 'conduitlaw30.ShareFull'. -/
def shareFullCard : Claim7 := { stood := { row := shareFullRow, standIns := [], harness := (true, "0789c05d1d41afc94d38b29715800e993dd35e07b35b86a12c713ff833efd4e8"), looks := false }, kinds := [], alts := [], laidByText := true, laidKinds := [.data, .pinned], laidTests := true, laidLooks := .later }
def ShareFullCardSaid : Prop := Claim7.holds Tryz.pinned (.plain (OpenSpec.ofChange shareFullSpec)) shareFullCard

/-- THE TIED CARD OF 'conduitlaw30.ShareBack'. -/
def shareBackCard : Claim7 := { stood := { row := shareBackRow, standIns := [], harness := (true, "0789c05d1d41afc94d38b29715800e993dd35e07b35b86a12c713ff833efd4e8"), looks := false }, kinds := [], alts := [], laidByText := true, laidKinds := [.data, .pinned], laidTests := true, laidLooks := .later }
def ShareBackCardSaid : Prop := Claim7.holds Tryz.pinned (.plain (OpenSpec.ofChange shareBackSpec)) shareBackCard

/-- THE TIED CARD OF 'conduitlaw30.ShareNobody'. -/
def shareNobodyCard : Claim7 := { stood := { row := shareNobodyRow, standIns := [], harness := (true, "0789c05d1d41afc94d38b29715800e993dd35e07b35b86a12c713ff833efd4e8"), looks := false }, kinds := [], alts := [], laidByText := true, laidKinds := [.data, .pinned], laidTests := true, laidLooks := .later }
def ShareNobodyCardSaid : Prop := Claim7.holds Tryz.pinned (.plain (OpenSpec.ofChange shareNobodySpec)) shareNobodyCard

/-- THE SECOND FORM's CARD OF 'conduitlaw30.ShareFair'. -/
def shareFairUptoCard : Claim7 := { stood := { row := shareFairUptoRow, standIns := [], harness := (true, "0789c05d1d41afc94d38b29715800e993dd35e07b35b86a12c713ff833efd4e8"), looks := false }, kinds := [], alts := [], laidByText := true, laidKinds := [.data, .pinned], laidTests := true, laidLooks := .later }
def ShareFairUptoCardSaid : Prop := Claim7.holds Tryz.pinned (.plain (OpenSpec.upto shareFairSpec)) shareFairUptoCard

/-- THE SECOND FORM's CARD OF 'conduitlaw30.ShareKeeps'. -/
def shareKeepsUptoCard : Claim7 := { stood := { row := shareKeepsUptoRow, standIns := [], harness := (true, "0789c05d1d41afc94d38b29715800e993dd35e07b35b86a12c713ff833efd4e8"), looks := false }, kinds := [], alts := [], laidByText := true, laidKinds := [.data, .pinned], laidTests := true, laidLooks := .later }
def ShareKeepsUptoCardSaid : Prop := Claim7.holds Tryz.pinned (.plain (OpenSpec.upto shareKeepsSpec)) shareKeepsUptoCard

/-- THE SECOND FORM's CARD OF 'conduitlaw30.SharePlays'. -/
def sharePlaysUptoCard : Claim7 := { stood := { row := sharePlaysUptoRow, standIns := [], harness := (true, "0789c05d1d41afc94d38b29715800e993dd35e07b35b86a12c713ff833efd4e8"), looks := false }, kinds := [], alts := [], laidByText := true, laidKinds := [.data, .pinned], laidTests := true, laidLooks := .later }
def SharePlaysUptoCardSaid : Prop := Claim7.holds Tryz.pinned (.plain (OpenSpec.upto sharePlaysSpec)) sharePlaysUptoCard

/-- THE SECOND FORM's CARD OF 'conduitlaw30.ShareFull'. -/
def shareFullUptoCard : Claim7 := { stood := { row := shareFullUptoRow, standIns := [], harness := (true, "0789c05d1d41afc94d38b29715800e993dd35e07b35b86a12c713ff833efd4e8"), looks := false }, kinds := [], alts := [], laidByText := true, laidKinds := [.data, .pinned], laidTests := true, laidLooks := .later }
def ShareFullUptoCardSaid : Prop := Claim7.holds Tryz.pinned (.plain (OpenSpec.upto shareFullSpec)) shareFullUptoCard

/-- THE SECOND FORM's CARD OF 'conduitlaw30.ShareBack'. -/
def shareBackUptoCard : Claim7 := { stood := { row := shareBackUptoRow, standIns := [], harness := (true, "0789c05d1d41afc94d38b29715800e993dd35e07b35b86a12c713ff833efd4e8"), looks := false }, kinds := [], alts := [], laidByText := true, laidKinds := [.data, .pinned], laidTests := true, laidLooks := .later }
def ShareBackUptoCardSaid : Prop := Claim7.holds Tryz.pinned (.plain (OpenSpec.upto shareBackSpec)) shareBackUptoCard

/-- THE SECOND FORM's CARD OF 'conduitlaw30.ShareNobody'. -/
def shareNobodyUptoCard : Claim7 := { stood := { row := shareNobodyUptoRow, standIns := [], harness := (true, "0789c05d1d41afc94d38b29715800e993dd35e07b35b86a12c713ff833efd4e8"), looks := false }, kinds := [], alts := [], laidByText := true, laidKinds := [.data, .pinned], laidTests := true, laidLooks := .later }
def ShareNobodyUptoCardSaid : Prop := Claim7.holds Tryz.pinned (.plain (OpenSpec.upto shareNobodySpec)) shareNobodyUptoCard
end Rows
end Go.Proofs.YtincmegllckcjaaGreatDoor
