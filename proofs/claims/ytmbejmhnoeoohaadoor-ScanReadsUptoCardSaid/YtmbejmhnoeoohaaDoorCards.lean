/-
  DERIVED. GIVEN WITH THE SEED: THE CARDS: each row of YtmbejmhnoeoohaaDoorRows.lean that lists a variable, with what it lists TIED to the program's text (the seventh form; the later family's looks); each row that meets fmt, with fmt's text TOLD by the authors' own Lean function (tested against real Go, not proved from fmt's source: count such statements apart). THE CARD IS WHAT COUNTS. Prove the row's statement (the work); the ties are given (YtmbejmhnoeoohaaDoorTie.lean); close each card by the builder's one call (the guide's Derived/Test/ToyasCard.lean, 'card_holds'). Laid BY PROGRAM, IN A SANDBOX (cutbox-door.mjs). By AI agents, Wed Nov 11 2026. No macro, syntax, notation, axiom, sorry.
-/
import Derived.Test.YtmbejmhnoeoohaaDoorRows
import GoSem.ClaimSeven
namespace Go.Proofs.YtmbejmhnoeoohaaDoor
namespace Rows

/-- THE TIED CARD OF 'conduitlaw06.ScanReads'. -/
def scanReadsCard : Claim7 := { stood := { row := scanReadsRow, standIns := [], harness := (true, "ba571798945e7b489f4d1a1da12650c9c66b787fd861fcf8154af1715805b47f"), looks := false }, kinds := [], alts := [], laidByText := true, laidKinds := [.data], laidTests := true, laidLooks := .later }
def ScanReadsCardSaid : Prop := Claim7.holds Tryd.pinned (.plain (OpenSpec.ofChange scanReadsSpec)) scanReadsCard

/-- THE TIED CARD OF 'conduitlaw06.ScanWords'. -/
def scanWordsCard : Claim7 := { stood := { row := scanWordsRow, standIns := [], harness := (true, "ba571798945e7b489f4d1a1da12650c9c66b787fd861fcf8154af1715805b47f"), looks := false }, kinds := [], alts := [], laidByText := true, laidKinds := [.data], laidTests := true, laidLooks := .later }
def ScanWordsCardSaid : Prop := Claim7.holds Tryd.pinned (.plain (OpenSpec.ofChange scanWordsSpec)) scanWordsCard

/-- THE TIED CARD OF 'conduitlaw06.ScanBetween'. -/
def scanBetweenCard : Claim7 := { stood := { row := scanBetweenRow, standIns := [], harness := (true, "ba571798945e7b489f4d1a1da12650c9c66b787fd861fcf8154af1715805b47f"), looks := false }, kinds := [], alts := [], laidByText := true, laidKinds := [.data], laidTests := true, laidLooks := .later }
def ScanBetweenCardSaid : Prop := Claim7.holds Tryd.pinned (.plain (OpenSpec.ofChange scanBetweenSpec)) scanBetweenCard

/-- THE TIED CARD OF 'conduitlaw06.ScanTwice'. -/
def scanTwiceCard : Claim7 := { stood := { row := scanTwiceRow, standIns := [], harness := (true, "ba571798945e7b489f4d1a1da12650c9c66b787fd861fcf8154af1715805b47f"), looks := false }, kinds := [], alts := [], laidByText := true, laidKinds := [.data], laidTests := true, laidLooks := .later }
def ScanTwiceCardSaid : Prop := Claim7.holds Tryd.pinned (.plain (OpenSpec.ofChange scanTwiceSpec)) scanTwiceCard

/-- THE TIED CARD OF 'conduitlaw06.ScanQuotes'. -/
def scanQuotesCard : Claim7 := { stood := { row := scanQuotesRow, standIns := [], harness := (true, "ba571798945e7b489f4d1a1da12650c9c66b787fd861fcf8154af1715805b47f"), looks := false }, kinds := [], alts := [], laidByText := true, laidKinds := [.data], laidTests := true, laidLooks := .later }
def ScanQuotesCardSaid : Prop := Claim7.holds Tryd.pinned (.plain (OpenSpec.ofChange scanQuotesSpec)) scanQuotesCard

/-- THE TIED CARD OF 'conduitlaw06.ScanLines'. -/
def scanLinesCard : Claim7 := { stood := { row := scanLinesRow, standIns := [], harness := (true, "ba571798945e7b489f4d1a1da12650c9c66b787fd861fcf8154af1715805b47f"), looks := false }, kinds := [], alts := [], laidByText := true, laidKinds := [.data], laidTests := true, laidLooks := .later }
def ScanLinesCardSaid : Prop := Claim7.holds Tryd.pinned (.plain (OpenSpec.ofChange scanLinesSpec)) scanLinesCard

/-- THE SECOND FORM's CARD OF 'conduitlaw06.ScanReads'. -/
def scanReadsUptoCard : Claim7 := { stood := { row := scanReadsUptoRow, standIns := [], harness := (true, "ba571798945e7b489f4d1a1da12650c9c66b787fd861fcf8154af1715805b47f"), looks := false }, kinds := [], alts := [], laidByText := true, laidKinds := [.data], laidTests := true, laidLooks := .later }
def ScanReadsUptoCardSaid : Prop := Claim7.holds Tryd.pinned (.plain (OpenSpec.upto scanReadsSpec)) scanReadsUptoCard

/-- THE SECOND FORM's CARD OF 'conduitlaw06.ScanWords'. -/
def scanWordsUptoCard : Claim7 := { stood := { row := scanWordsUptoRow, standIns := [], harness := (true, "ba571798945e7b489f4d1a1da12650c9c66b787fd861fcf8154af1715805b47f"), looks := false }, kinds := [], alts := [], laidByText := true, laidKinds := [.data], laidTests := true, laidLooks := .later }
def ScanWordsUptoCardSaid : Prop := Claim7.holds Tryd.pinned (.plain (OpenSpec.upto scanWordsSpec)) scanWordsUptoCard

/-- THE SECOND FORM's CARD OF 'conduitlaw06.ScanBetween'. -/
def scanBetweenUptoCard : Claim7 := { stood := { row := scanBetweenUptoRow, standIns := [], harness := (true, "ba571798945e7b489f4d1a1da12650c9c66b787fd861fcf8154af1715805b47f"), looks := false }, kinds := [], alts := [], laidByText := true, laidKinds := [.data], laidTests := true, laidLooks := .later }
def ScanBetweenUptoCardSaid : Prop := Claim7.holds Tryd.pinned (.plain (OpenSpec.upto scanBetweenSpec)) scanBetweenUptoCard

/-- THE SECOND FORM's CARD OF 'conduitlaw06.ScanTwice'. -/
def scanTwiceUptoCard : Claim7 := { stood := { row := scanTwiceUptoRow, standIns := [], harness := (true, "ba571798945e7b489f4d1a1da12650c9c66b787fd861fcf8154af1715805b47f"), looks := false }, kinds := [], alts := [], laidByText := true, laidKinds := [.data], laidTests := true, laidLooks := .later }
def ScanTwiceUptoCardSaid : Prop := Claim7.holds Tryd.pinned (.plain (OpenSpec.upto scanTwiceSpec)) scanTwiceUptoCard

/-- THE SECOND FORM's CARD OF 'conduitlaw06.ScanQuotes'. -/
def scanQuotesUptoCard : Claim7 := { stood := { row := scanQuotesUptoRow, standIns := [], harness := (true, "ba571798945e7b489f4d1a1da12650c9c66b787fd861fcf8154af1715805b47f"), looks := false }, kinds := [], alts := [], laidByText := true, laidKinds := [.data], laidTests := true, laidLooks := .later }
def ScanQuotesUptoCardSaid : Prop := Claim7.holds Tryd.pinned (.plain (OpenSpec.upto scanQuotesSpec)) scanQuotesUptoCard

/-- THE SECOND FORM's CARD OF 'conduitlaw06.ScanLines'. -/
def scanLinesUptoCard : Claim7 := { stood := { row := scanLinesUptoRow, standIns := [], harness := (true, "ba571798945e7b489f4d1a1da12650c9c66b787fd861fcf8154af1715805b47f"), looks := false }, kinds := [], alts := [], laidByText := true, laidKinds := [.data], laidTests := true, laidLooks := .later }
def ScanLinesUptoCardSaid : Prop := Claim7.holds Tryd.pinned (.plain (OpenSpec.upto scanLinesSpec)) scanLinesUptoCard
end Rows
end Go.Proofs.YtmbejmhnoeoohaaDoor
