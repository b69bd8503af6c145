/-
  DERIVED. GIVEN WITH THE SEED: THE CARDS: each row of YtkhlfggnjcbniaaGreatDoorRows.lean that lists a variable, with what it lists TIED to the program's text (the seventh form; the later family's looks); each row that meets fmt, with fmt's text TOLD by the authors' own Lean function (tested against real Go, not proved from fmt's source: count such statements apart). THE CARD IS WHAT COUNTS. Prove the row's statement (the work); the ties are given (YtkhlfggnjcbniaaGreatDoorTie.lean); close each card by the builder's one call (the guide's Derived/Test/ToyasCard.lean, 'card_holds'). Laid BY PROGRAM, IN A SANDBOX (cutbox-door.mjs). By AI agents, Wed Nov 11 2026. No macro, syntax, notation, axiom, sorry.
-/
import Derived.Test.YtkhlfggnjcbniaaGreatDoorRows
import GoSem.ClaimSeven
namespace Go.Proofs.YtkhlfggnjcbniaaGreatDoor
namespace Rows

/-- THE TIED CARD OF 'counterfoillaw18.ValidBars'. -/
def validBarsCard : Claim7 := { stood := { row := validBarsRow, standIns := [], harness := (true, "783850049ea947ba42d6bcf09eb68789050a6c126d98688f0d80d4483a63f8d3"), looks := true }, kinds := [], alts := [], laidByText := true, laidKinds := [.data, .data, .data, .data, .sentinel, .sentinel, .pinned], laidTests := true, laidLooks := .later }
def ValidBarsCardSaid : Prop := Claim7.holds Tryz.pinned (.plain (OpenSpec.ofChange validBarsSpec)) validBarsCard

/-- THE TIED CARD OF 'counterfoillaw18.ValidFlags'. -/
def validFlagsCard : Claim7 := { stood := { row := validFlagsRow, standIns := [], harness := (true, "783850049ea947ba42d6bcf09eb68789050a6c126d98688f0d80d4483a63f8d3"), looks := true }, kinds := [], alts := [], laidByText := true, laidKinds := [.data, .data, .data, .data, .sentinel, .sentinel, .pinned], laidTests := true, laidLooks := .later }
def ValidFlagsCardSaid : Prop := Claim7.holds Tryz.pinned (.plain (OpenSpec.ofChange validFlagsSpec)) validFlagsCard

/-- THE TIED CARD OF 'counterfoillaw18.ValidCustom'. -/
def validCustomCard : Claim7 := { stood := { row := validCustomRow, standIns := [], harness := (true, "783850049ea947ba42d6bcf09eb68789050a6c126d98688f0d80d4483a63f8d3"), looks := true }, kinds := [], alts := [], laidByText := true, laidKinds := [.data, .data, .data, .data, .sentinel, .sentinel, .pinned], laidTests := true, laidLooks := .later }
def ValidCustomCardSaid : Prop := Claim7.holds Tryz.pinned (.plain (OpenSpec.ofChange validCustomSpec)) validCustomCard

/-- THE TIED CARD OF 'counterfoillaw18.ValidFree'. -/
def validFreeCard : Claim7 := { stood := { row := validFreeRow, standIns := [], harness := (true, "783850049ea947ba42d6bcf09eb68789050a6c126d98688f0d80d4483a63f8d3"), looks := true }, kinds := [], alts := [], laidByText := true, laidKinds := [.data, .data, .data, .data, .sentinel, .sentinel, .pinned], laidTests := true, laidLooks := .later }
def ValidFreeCardSaid : Prop := Claim7.holds Tryz.pinned (.plain (OpenSpec.ofChange validFreeSpec)) validFreeCard

/-- THE TIED CARD OF 'counterfoillaw18.ValidValues'. -/
def validValuesCard : Claim7 := { stood := { row := validValuesRow, standIns := [], harness := (true, "783850049ea947ba42d6bcf09eb68789050a6c126d98688f0d80d4483a63f8d3"), looks := true }, kinds := [], alts := [], laidByText := true, laidKinds := [.data, .data, .data, .data, .sentinel, .sentinel, .pinned], laidTests := true, laidLooks := .later }
def ValidValuesCardSaid : Prop := Claim7.holds Tryz.pinned (.plain (OpenSpec.ofChange validValuesSpec)) validValuesCard

/-- THE TIED CARD OF 'counterfoillaw18.ValidAsks'. -/
def validAsksCard : Claim7 := { stood := { row := validAsksRow, standIns := [], harness := (true, "783850049ea947ba42d6bcf09eb68789050a6c126d98688f0d80d4483a63f8d3"), looks := true }, kinds := [], alts := [], laidByText := true, laidKinds := [.data, .data, .data, .data, .sentinel, .sentinel, .pinned], laidTests := true, laidLooks := .later }
def ValidAsksCardSaid : Prop := Claim7.holds Tryz.pinned (.plain (OpenSpec.ofChange validAsksSpec)) validAsksCard

/-- THE SECOND FORM's CARD OF 'counterfoillaw18.ValidBars'. -/
def validBarsUptoCard : Claim7 := { stood := { row := validBarsUptoRow, standIns := [], harness := (true, "783850049ea947ba42d6bcf09eb68789050a6c126d98688f0d80d4483a63f8d3"), looks := true }, kinds := [], alts := [], laidByText := true, laidKinds := [.data, .data, .data, .data, .sentinel, .sentinel, .pinned], laidTests := true, laidLooks := .later }
def ValidBarsUptoCardSaid : Prop := Claim7.holds Tryz.pinned (.plain (OpenSpec.upto validBarsSpec)) validBarsUptoCard

/-- THE SECOND FORM's CARD OF 'counterfoillaw18.ValidFlags'. -/
def validFlagsUptoCard : Claim7 := { stood := { row := validFlagsUptoRow, standIns := [], harness := (true, "783850049ea947ba42d6bcf09eb68789050a6c126d98688f0d80d4483a63f8d3"), looks := true }, kinds := [], alts := [], laidByText := true, laidKinds := [.data, .data, .data, .data, .sentinel, .sentinel, .pinned], laidTests := true, laidLooks := .later }
def ValidFlagsUptoCardSaid : Prop := Claim7.holds Tryz.pinned (.plain (OpenSpec.upto validFlagsSpec)) validFlagsUptoCard

/-- THE SECOND FORM's CARD OF 'counterfoillaw18.ValidCustom'. -/
def validCustomUptoCard : Claim7 := { stood := { row := validCustomUptoRow, standIns := [], harness := (true, "783850049ea947ba42d6bcf09eb68789050a6c126d98688f0d80d4483a63f8d3"), looks := true }, kinds := [], alts := [], laidByText := true, laidKinds := [.data, .data, .data, .data, .sentinel, .sentinel, .pinned], laidTests := true, laidLooks := .later }
def ValidCustomUptoCardSaid : Prop := Claim7.holds Tryz.pinned (.plain (OpenSpec.upto validCustomSpec)) validCustomUptoCard

/-- THE SECOND FORM's CARD OF 'counterfoillaw18.ValidFree'. -/
def validFreeUptoCard : Claim7 := { stood := { row := validFreeUptoRow, standIns := [], harness := (true, "783850049ea947ba42d6bcf09eb68789050a6c126d98688f0d80d4483a63f8d3"), looks := true }, kinds := [], alts := [], laidByText := true, laidKinds := [.data, .data, .data, .data, .sentinel, .sentinel, .pinned], laidTests := true, laidLooks := .later }
def ValidFreeUptoCardSaid : Prop := Claim7.holds Tryz.pinned (.plain (OpenSpec.upto validFreeSpec)) validFreeUptoCard

/-- THE SECOND FORM's CARD OF 'counterfoillaw18.ValidValues'. -/
def validValuesUptoCard : Claim7 := { stood := { row := validValuesUptoRow, standIns := [], harness := (true, "783850049ea947ba42d6bcf09eb68789050a6c126d98688f0d80d4483a63f8d3"), looks := true }, kinds := [], alts := [], laidByText := true, laidKinds := [.data, .data, .data, .data, .sentinel, .sentinel, .pinned], laidTests := true, laidLooks := .later }
def ValidValuesUptoCardSaid : Prop := Claim7.holds Tryz.pinned (.plain (OpenSpec.upto validValuesSpec)) validValuesUptoCard

/-- THE SECOND FORM's CARD OF 'counterfoillaw18.ValidAsks'. -/
def validAsksUptoCard : Claim7 := { stood := { row := validAsksUptoRow, standIns := [], harness := (true, "783850049ea947ba42d6bcf09eb68789050a6c126d98688f0d80d4483a63f8d3"), looks := true }, kinds := [], alts := [], laidByText := true, laidKinds := [.data, .data, .data, .data, .sentinel, .sentinel, .pinned], laidTests := true, laidLooks := .later }
def ValidAsksUptoCardSaid : Prop := Claim7.holds Tryz.pinned (.plain (OpenSpec.upto validAsksSpec)) validAsksUptoCard
end Rows
end Go.Proofs.YtkhlfggnjcbniaaGreatDoor
