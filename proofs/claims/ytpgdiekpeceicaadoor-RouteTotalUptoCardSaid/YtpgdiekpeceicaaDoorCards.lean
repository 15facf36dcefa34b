/-
  DERIVED. GIVEN WITH THE SEED: THE CARDS: each row of YtpgdiekpeceicaaDoorRows.lean that lists a variable, with what it lists TIED to the program's text (the seventh form; the later family's looks); each row that meets fmt, with fmt's text TOLD by the authors' own Lean function (tested against real Go, not proved from fmt's source: count such statements apart). THE CARD IS WHAT COUNTS. Prove the row's statement (the work); the ties are given (YtpgdiekpeceicaaDoorTie.lean); close each card by the builder's one call (the guide's Derived/Test/ToyasCard.lean, 'card_holds'). Laid BY PROGRAM, IN A SANDBOX (cutbox-door.mjs). By AI agents, Wed Nov 11 2026. No macro, syntax, notation, axiom, sorry.
-/
import Derived.Test.YtpgdiekpeceicaaDoorRows
import GoSem.ClaimSeven
namespace Go.Proofs.YtpgdiekpeceicaaDoor
namespace Rows

/-- THE TIED CARD OF 'conduitlaw21.RouteFinds'. -/
def routeFindsCard : Claim7 := { stood := { row := routeFindsRow, standIns := [], harness := (true, "603410826706414797478ee69f6c06583bcecea9ecf81cdcaf40fcb6769c07cf"), looks := true }, kinds := [], alts := [], laidByText := true, laidKinds := [.data, .pinned], laidTests := true, laidLooks := .later }
def RouteFindsCardSaid : Prop := Claim7.holds Tryd.pinned (.plain (OpenSpec.ofChange routeFindsSpec)) routeFindsCard

/-- THE TIED CARD OF 'conduitlaw21.RouteTotal'. -/
def routeTotalCard : Claim7 := { stood := { row := routeTotalRow, standIns := [], harness := (true, "603410826706414797478ee69f6c06583bcecea9ecf81cdcaf40fcb6769c07cf"), looks := true }, kinds := [], alts := [], laidByText := true, laidKinds := [.data, .pinned], laidTests := true, laidLooks := .later }
def RouteTotalCardSaid : Prop := Claim7.holds Tryd.pinned (.plain (OpenSpec.ofChange routeTotalSpec)) routeTotalCard

/-- THE TIED CARD OF 'conduitlaw21.RouteExplains'. -/
def routeExplainsCard : Claim7 := { stood := { row := routeExplainsRow, standIns := [], harness := (true, "603410826706414797478ee69f6c06583bcecea9ecf81cdcaf40fcb6769c07cf"), looks := true }, kinds := [], alts := [], laidByText := true, laidKinds := [.data, .data, .data, .data, .pinned], laidTests := true, laidLooks := .later }
def RouteExplainsCardSaid : Prop := Claim7.holds Tryd.pinned (.plain (OpenSpec.ofChange routeExplainsSpec)) routeExplainsCard

/-- THE TIED CARD OF 'conduitlaw21.RouteKinds'. -/
def routeKindsCard : Claim7 := { stood := { row := routeKindsRow, standIns := [], harness := (true, "603410826706414797478ee69f6c06583bcecea9ecf81cdcaf40fcb6769c07cf"), looks := true }, kinds := [], alts := [], laidByText := true, laidKinds := [.data, .data, .data, .data, .pinned], laidTests := true, laidLooks := .later }
def RouteKindsCardSaid : Prop := Claim7.holds Tryd.pinned (.plain (OpenSpec.ofChange routeKindsSpec)) routeKindsCard

/-- THE SECOND FORM's CARD OF 'conduitlaw21.RouteFinds'. -/
def routeFindsUptoCard : Claim7 := { stood := { row := routeFindsUptoRow, standIns := [], harness := (true, "603410826706414797478ee69f6c06583bcecea9ecf81cdcaf40fcb6769c07cf"), looks := true }, kinds := [], alts := [], laidByText := true, laidKinds := [.data, .pinned], laidTests := true, laidLooks := .later }
def RouteFindsUptoCardSaid : Prop := Claim7.holds Tryd.pinned (.plain (OpenSpec.upto routeFindsSpec)) routeFindsUptoCard

/-- THE SECOND FORM's CARD OF 'conduitlaw21.RouteTotal'. -/
def routeTotalUptoCard : Claim7 := { stood := { row := routeTotalUptoRow, standIns := [], harness := (true, "603410826706414797478ee69f6c06583bcecea9ecf81cdcaf40fcb6769c07cf"), looks := true }, kinds := [], alts := [], laidByText := true, laidKinds := [.data, .pinned], laidTests := true, laidLooks := .later }
def RouteTotalUptoCardSaid : Prop := Claim7.holds Tryd.pinned (.plain (OpenSpec.upto routeTotalSpec)) routeTotalUptoCard

/-- THE SECOND FORM's CARD OF 'conduitlaw21.RouteExplains'. -/
def routeExplainsUptoCard : Claim7 := { stood := { row := routeExplainsUptoRow, standIns := [], harness := (true, "603410826706414797478ee69f6c06583bcecea9ecf81cdcaf40fcb6769c07cf"), looks := true }, kinds := [], alts := [], laidByText := true, laidKinds := [.data, .data, .data, .data, .pinned], laidTests := true, laidLooks := .later }
def RouteExplainsUptoCardSaid : Prop := Claim7.holds Tryd.pinned (.plain (OpenSpec.upto routeExplainsSpec)) routeExplainsUptoCard

/-- THE SECOND FORM's CARD OF 'conduitlaw21.RouteKinds'. -/
def routeKindsUptoCard : Claim7 := { stood := { row := routeKindsUptoRow, standIns := [], harness := (true, "603410826706414797478ee69f6c06583bcecea9ecf81cdcaf40fcb6769c07cf"), looks := true }, kinds := [], alts := [], laidByText := true, laidKinds := [.data, .data, .data, .data, .pinned], laidTests := true, laidLooks := .later }
def RouteKindsUptoCardSaid : Prop := Claim7.holds Tryd.pinned (.plain (OpenSpec.upto routeKindsSpec)) routeKindsUptoCard
end Rows
end Go.Proofs.YtpgdiekpeceicaaDoor
