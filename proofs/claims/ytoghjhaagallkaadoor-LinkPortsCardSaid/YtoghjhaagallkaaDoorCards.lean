/-
  DERIVED. GIVEN WITH THE SEED: THE CARDS: each row of YtoghjhaagallkaaDoorRows.lean that lists a variable, with what it lists TIED to the program's text (the seventh form; the later family's looks); each row that meets fmt, with fmt's text TOLD by the authors' own Lean function (tested against real Go, not proved from fmt's source: count such statements apart). THE CARD IS WHAT COUNTS. Prove the row's statement (the work); the ties are given (YtoghjhaagallkaaDoorTie.lean); close each card by the builder's one call (the guide's Derived/Test/ToyasCard.lean, 'card_holds'). Laid BY PROGRAM, IN A SANDBOX (cutbox-door.mjs). By AI agents, Wed Nov 11 2026. No macro, syntax, notation, axiom, sorry.
-/
import Derived.Test.YtoghjhaagallkaaDoorRows
import GoSem.ClaimSeven
namespace Go.Proofs.YtoghjhaagallkaaDoor
namespace Rows

/-- THE TIED CARD OF 'counterfoillaw08.LinkFine'. -/
def linkFineCard : Claim7 := { stood := { row := linkFineRow, standIns := [], harness := (true, "9289197771cac1a45ef8de629b2f1166f613d1da4026f071c95755cdf12d9f34"), looks := true }, kinds := [], alts := [], laidByText := true, laidKinds := [.data, .pinned], laidTests := true, laidLooks := .later }
def LinkFineCardSaid : Prop := Claim7.holds Tryd.pinned (.plain (OpenSpec.ofChange linkFineSpec)) linkFineCard

/-- THE TIED CARD OF 'counterfoillaw08.LinkHosts'. -/
def linkHostsCard : Claim7 := { stood := { row := linkHostsRow, standIns := [], harness := (true, "9289197771cac1a45ef8de629b2f1166f613d1da4026f071c95755cdf12d9f34"), looks := true }, kinds := [], alts := [], laidByText := true, laidKinds := [.data, .data, .data, .data, .sentinel, .sentinel, .pinned], laidTests := true, laidLooks := .later }
def LinkHostsCardSaid : Prop := Claim7.holds Tryd.pinned (.plain (OpenSpec.ofChange linkHostsSpec)) linkHostsCard

/-- THE TIED CARD OF 'counterfoillaw08.LinkSchemes'. -/
def linkSchemesCard : Claim7 := { stood := { row := linkSchemesRow, standIns := [], harness := (true, "9289197771cac1a45ef8de629b2f1166f613d1da4026f071c95755cdf12d9f34"), looks := true }, kinds := [], alts := [], laidByText := true, laidKinds := [.data, .data, .data, .data, .sentinel, .sentinel, .pinned], laidTests := true, laidLooks := .later }
def LinkSchemesCardSaid : Prop := Claim7.holds Tryd.pinned (.plain (OpenSpec.ofChange linkSchemesSpec)) linkSchemesCard

/-- THE TIED CARD OF 'counterfoillaw08.LinkCases'. -/
def linkCasesCard : Claim7 := { stood := { row := linkCasesRow, standIns := [], harness := (true, "9289197771cac1a45ef8de629b2f1166f613d1da4026f071c95755cdf12d9f34"), looks := true }, kinds := [], alts := [], laidByText := true, laidKinds := [.data, .data, .data, .data, .sentinel, .sentinel, .pinned], laidTests := true, laidLooks := .later }
def LinkCasesCardSaid : Prop := Claim7.holds Tryd.pinned (.plain (OpenSpec.ofChange linkCasesSpec)) linkCasesCard

/-- THE TIED CARD OF 'counterfoillaw08.LinkBehind'. -/
def linkBehindCard : Claim7 := { stood := { row := linkBehindRow, standIns := [], harness := (true, "9289197771cac1a45ef8de629b2f1166f613d1da4026f071c95755cdf12d9f34"), looks := true }, kinds := [], alts := [], laidByText := true, laidKinds := [.data, .data, .data, .data, .sentinel, .sentinel, .pinned], laidTests := true, laidLooks := .later }
def LinkBehindCardSaid : Prop := Claim7.holds Tryd.pinned (.plain (OpenSpec.ofChange linkBehindSpec)) linkBehindCard

/-- THE TIED CARD OF 'counterfoillaw08.LinkPorts'. -/
def linkPortsCard : Claim7 := { stood := { row := linkPortsRow, standIns := [], harness := (true, "9289197771cac1a45ef8de629b2f1166f613d1da4026f071c95755cdf12d9f34"), looks := true }, kinds := [], alts := [], laidByText := true, laidKinds := [.data, .data, .data, .data, .sentinel, .sentinel, .pinned], laidTests := true, laidLooks := .later }
def LinkPortsCardSaid : Prop := Claim7.holds Tryd.pinned (.plain (OpenSpec.ofChange linkPortsSpec)) linkPortsCard

/-- THE SECOND FORM's CARD OF 'counterfoillaw08.LinkFine'. -/
def linkFineUptoCard : Claim7 := { stood := { row := linkFineUptoRow, standIns := [], harness := (true, "9289197771cac1a45ef8de629b2f1166f613d1da4026f071c95755cdf12d9f34"), looks := true }, kinds := [], alts := [], laidByText := true, laidKinds := [.data, .pinned], laidTests := true, laidLooks := .later }
def LinkFineUptoCardSaid : Prop := Claim7.holds Tryd.pinned (.plain (OpenSpec.upto linkFineSpec)) linkFineUptoCard

/-- THE SECOND FORM's CARD OF 'counterfoillaw08.LinkHosts'. -/
def linkHostsUptoCard : Claim7 := { stood := { row := linkHostsUptoRow, standIns := [], harness := (true, "9289197771cac1a45ef8de629b2f1166f613d1da4026f071c95755cdf12d9f34"), looks := true }, kinds := [], alts := [], laidByText := true, laidKinds := [.data, .data, .data, .data, .sentinel, .sentinel, .pinned], laidTests := true, laidLooks := .later }
def LinkHostsUptoCardSaid : Prop := Claim7.holds Tryd.pinned (.plain (OpenSpec.upto linkHostsSpec)) linkHostsUptoCard

/-- THE SECOND FORM's CARD OF 'counterfoillaw08.LinkSchemes'. -/
def linkSchemesUptoCard : Claim7 := { stood := { row := linkSchemesUptoRow, standIns := [], harness := (true, "9289197771cac1a45ef8de629b2f1166f613d1da4026f071c95755cdf12d9f34"), looks := true }, kinds := [], alts := [], laidByText := true, laidKinds := [.data, .data, .data, .data, .sentinel, .sentinel, .pinned], laidTests := true, laidLooks := .later }
def LinkSchemesUptoCardSaid : Prop := Claim7.holds Tryd.pinned (.plain (OpenSpec.upto linkSchemesSpec)) linkSchemesUptoCard

/-- THE SECOND FORM's CARD OF 'counterfoillaw08.LinkCases'. -/
def linkCasesUptoCard : Claim7 := { stood := { row := linkCasesUptoRow, standIns := [], harness := (true, "9289197771cac1a45ef8de629b2f1166f613d1da4026f071c95755cdf12d9f34"), looks := true }, kinds := [], alts := [], laidByText := true, laidKinds := [.data, .data, .data, .data, .sentinel, .sentinel, .pinned], laidTests := true, laidLooks := .later }
def LinkCasesUptoCardSaid : Prop := Claim7.holds Tryd.pinned (.plain (OpenSpec.upto linkCasesSpec)) linkCasesUptoCard

/-- THE SECOND FORM's CARD OF 'counterfoillaw08.LinkBehind'. -/
def linkBehindUptoCard : Claim7 := { stood := { row := linkBehindUptoRow, standIns := [], harness := (true, "9289197771cac1a45ef8de629b2f1166f613d1da4026f071c95755cdf12d9f34"), looks := true }, kinds := [], alts := [], laidByText := true, laidKinds := [.data, .data, .data, .data, .sentinel, .sentinel, .pinned], laidTests := true, laidLooks := .later }
def LinkBehindUptoCardSaid : Prop := Claim7.holds Tryd.pinned (.plain (OpenSpec.upto linkBehindSpec)) linkBehindUptoCard

/-- THE SECOND FORM's CARD OF 'counterfoillaw08.LinkPorts'. -/
def linkPortsUptoCard : Claim7 := { stood := { row := linkPortsUptoRow, standIns := [], harness := (true, "9289197771cac1a45ef8de629b2f1166f613d1da4026f071c95755cdf12d9f34"), looks := true }, kinds := [], alts := [], laidByText := true, laidKinds := [.data, .data, .data, .data, .sentinel, .sentinel, .pinned], laidTests := true, laidLooks := .later }
def LinkPortsUptoCardSaid : Prop := Claim7.holds Tryd.pinned (.plain (OpenSpec.upto linkPortsSpec)) linkPortsUptoCard
end Rows
end Go.Proofs.YtoghjhaagallkaaDoor
