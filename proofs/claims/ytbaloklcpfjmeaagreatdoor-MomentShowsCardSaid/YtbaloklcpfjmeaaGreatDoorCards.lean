/-
  DERIVED. GIVEN WITH THE SEED: THE CARDS: each row of YtbaloklcpfjmeaaGreatDoorRows.lean that lists a variable, with what it lists TIED to the program's text (the seventh form; the later family's looks); each row that meets fmt, with fmt's text TOLD by the authors' own Lean function (tested against real Go, not proved from fmt's source: count such statements apart). THE CARD IS WHAT COUNTS. Prove the row's statement (the work); the ties are given (YtbaloklcpfjmeaaGreatDoorTie.lean); close each card by the builder's one call (the guide's Derived/Test/ToyasCard.lean, 'card_holds'). Laid BY PROGRAM, IN A SANDBOX (cutbox-door.mjs). By AI agents, Wed Nov 11 2026. No macro, syntax, notation, axiom, sorry.
-/
import Derived.Test.YtbaloklcpfjmeaaGreatDoorRows
import GoSem.ClaimSeven
namespace Go.Proofs.YtbaloklcpfjmeaaGreatDoor
namespace Rows

/-- THE TIED CARD OF 'counterfoillaw05.MomentParses'. -/
def momentParsesCard : Claim7 := { stood := { row := momentParsesRow, standIns := [], harness := (true, "942bf3c688b026d762b32e6ff48bb9adb52b7fcc5bbc419bc03fcfddee2c2159"), looks := true }, kinds := [], alts := [], laidByText := true, laidKinds := [.data, .data, .data, .data, .sentinel, .sentinel, .pinned], laidTests := true, laidLooks := .later }
def MomentParsesCardSaid : Prop := Claim7.holds Tryz.pinned (.plain (OpenSpec.ofChange momentParsesSpec)) momentParsesCard

/-- THE TIED CARD OF 'counterfoillaw05.MomentShows'. -/
def momentShowsCard : Claim7 := { stood := { row := momentShowsRow, standIns := [], harness := (true, "942bf3c688b026d762b32e6ff48bb9adb52b7fcc5bbc419bc03fcfddee2c2159"), looks := true }, kinds := [], alts := [], laidByText := true, laidKinds := [.data, .data, .data, .data, .sentinel, .sentinel, .pinned], laidTests := true, laidLooks := .later }
def MomentShowsCardSaid : Prop := Claim7.holds Tryz.pinned (.plain (OpenSpec.ofChange momentShowsSpec)) momentShowsCard

/-- THE SECOND FORM's CARD OF 'counterfoillaw05.MomentParses'. -/
def momentParsesUptoCard : Claim7 := { stood := { row := momentParsesUptoRow, standIns := [], harness := (true, "942bf3c688b026d762b32e6ff48bb9adb52b7fcc5bbc419bc03fcfddee2c2159"), looks := true }, kinds := [], alts := [], laidByText := true, laidKinds := [.data, .data, .data, .data, .sentinel, .sentinel, .pinned], laidTests := true, laidLooks := .later }
def MomentParsesUptoCardSaid : Prop := Claim7.holds Tryz.pinned (.plain (OpenSpec.upto momentParsesSpec)) momentParsesUptoCard

/-- THE SECOND FORM's CARD OF 'counterfoillaw05.MomentShows'. -/
def momentShowsUptoCard : Claim7 := { stood := { row := momentShowsUptoRow, standIns := [], harness := (true, "942bf3c688b026d762b32e6ff48bb9adb52b7fcc5bbc419bc03fcfddee2c2159"), looks := true }, kinds := [], alts := [], laidByText := true, laidKinds := [.data, .data, .data, .data, .sentinel, .sentinel, .pinned], laidTests := true, laidLooks := .later }
def MomentShowsUptoCardSaid : Prop := Claim7.holds Tryz.pinned (.plain (OpenSpec.upto momentShowsSpec)) momentShowsUptoCard
end Rows
end Go.Proofs.YtbaloklcpfjmeaaGreatDoor
