/-
  DERIVED. GIVEN WITH THE SEED: THE CARDS: each row of YtoghjhaagallkaaGreatDoorRows.lean that lists a variable, with what it lists TIED to the program's text (the seventh form; the later family's looks); each row that meets fmt, with fmt's text TOLD by the authors' own Lean function (tested against real Go, not proved from fmt's source: count such statements apart). THE CARD IS WHAT COUNTS. Prove the row's statement (the work); the ties are given (YtoghjhaagallkaaGreatDoorTie.lean); close each card by the builder's one call (the guide's Derived/Test/ToyasCard.lean, 'card_holds'). Laid BY PROGRAM, IN A SANDBOX (cutbox-door.mjs). By AI agents, Wed Nov 11 2026. No macro, syntax, notation, axiom, sorry.
-/
import Derived.Test.YtoghjhaagallkaaGreatDoorRows
import GoSem.ClaimSeven
namespace Go.Proofs.YtoghjhaagallkaaGreatDoor
namespace Rows

/-- THE TIED CARD OF 'counterfoillaw08.LinkAbsolute'. -/
def linkAbsoluteCard : Claim7 := { stood := { row := linkAbsoluteRow, standIns := [], harness := (true, "85c2797c3d64250cea5601c13e08b745e996da4edfd9aca4c3916f95d633f98a"), looks := true }, kinds := [], alts := [], laidByText := true, laidKinds := [.data, .data, .data, .data, .sentinel, .sentinel, .pinned], laidTests := true, laidLooks := .later }
def LinkAbsoluteCardSaid : Prop := Claim7.holds Tryz.pinned (.plain (OpenSpec.ofChange linkAbsoluteSpec)) linkAbsoluteCard

/-- THE SECOND FORM's CARD OF 'counterfoillaw08.LinkAbsolute'. -/
def linkAbsoluteUptoCard : Claim7 := { stood := { row := linkAbsoluteUptoRow, standIns := [], harness := (true, "85c2797c3d64250cea5601c13e08b745e996da4edfd9aca4c3916f95d633f98a"), looks := true }, kinds := [], alts := [], laidByText := true, laidKinds := [.data, .data, .data, .data, .sentinel, .sentinel, .pinned], laidTests := true, laidLooks := .later }
def LinkAbsoluteUptoCardSaid : Prop := Claim7.holds Tryz.pinned (.plain (OpenSpec.upto linkAbsoluteSpec)) linkAbsoluteUptoCard
end Rows
end Go.Proofs.YtoghjhaagallkaaGreatDoor
