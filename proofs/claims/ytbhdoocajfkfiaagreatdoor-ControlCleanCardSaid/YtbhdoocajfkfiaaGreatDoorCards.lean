/-
  DERIVED. GIVEN WITH THE SEED: THE CARDS: each row of YtbhdoocajfkfiaaGreatDoorRows.lean that lists a variable, with what it lists TIED to the program's text (the seventh form; the later family's looks); each row that meets fmt, with fmt's text TOLD by the authors' own Lean function (tested against real Go, not proved from fmt's source: count such statements apart). THE CARD IS WHAT COUNTS. Prove the row's statement (the work); the ties are given (YtbhdoocajfkfiaaGreatDoorTie.lean); close each card by the builder's one call (the guide's Derived/Test/ToyasCard.lean, 'card_holds'). Laid BY PROGRAM, IN A SANDBOX (cutbox-door.mjs). By AI agents, Wed Nov 11 2026. No macro, syntax, notation, axiom, sorry.
-/
import Derived.Test.YtbhdoocajfkfiaaGreatDoorRows
import GoSem.ClaimSeven
namespace Go.Proofs.YtbhdoocajfkfiaaGreatDoor
namespace Rows

/-- THE TIED CARD OF 'counterfoillaw14.ControlStarts'. -/
def controlStartsCard : Claim7 := { stood := { row := controlStartsRow, standIns := [], harness := (true, "720efa4ea9fa4228a7dcc6ae9e7f59f77d73edac1ad9ffd7df46dda6480e1de7"), looks := true }, kinds := [], alts := [], laidByText := true, laidKinds := [.data, .data, .data, .data, .sentinel, .sentinel, .pinned], laidTests := true, laidLooks := .later }
def ControlStartsCardSaid : Prop := Claim7.holds Tryz.pinned (.plain (OpenSpec.ofChange controlStartsSpec)) controlStartsCard

/-- THE TIED CARD OF 'counterfoillaw14.ControlWrites'. -/
def controlWritesCard : Claim7 := { stood := { row := controlWritesRow, standIns := [], harness := (true, "720efa4ea9fa4228a7dcc6ae9e7f59f77d73edac1ad9ffd7df46dda6480e1de7"), looks := true }, kinds := [], alts := [], laidByText := true, laidKinds := [.data, .data, .data, .data, .sentinel, .sentinel, .pinned], laidTests := true, laidLooks := .later }
def ControlWritesCardSaid : Prop := Claim7.holds Tryz.pinned (.plain (OpenSpec.ofChange controlWritesSpec)) controlWritesCard

/-- THE TIED CARD OF 'counterfoillaw14.ControlResets'. -/
def controlResetsCard : Claim7 := { stood := { row := controlResetsRow, standIns := [], harness := (true, "720efa4ea9fa4228a7dcc6ae9e7f59f77d73edac1ad9ffd7df46dda6480e1de7"), looks := true }, kinds := [], alts := [], laidByText := true, laidKinds := [.data, .data, .data, .data, .sentinel, .sentinel, .pinned], laidTests := true, laidLooks := .later }
def ControlResetsCardSaid : Prop := Claim7.holds Tryz.pinned (.plain (OpenSpec.ofChange controlResetsSpec)) controlResetsCard

/-- THE TIED CARD OF 'counterfoillaw14.ControlTypes'. -/
def controlTypesCard : Claim7 := { stood := { row := controlTypesRow, standIns := [], harness := (true, "720efa4ea9fa4228a7dcc6ae9e7f59f77d73edac1ad9ffd7df46dda6480e1de7"), looks := true }, kinds := [], alts := [], laidByText := true, laidKinds := [.data, .data, .data, .data, .sentinel, .sentinel, .pinned], laidTests := true, laidLooks := .later }
def ControlTypesCardSaid : Prop := Claim7.holds Tryz.pinned (.plain (OpenSpec.ofChange controlTypesSpec)) controlTypesCard

/-- THE TIED CARD OF 'counterfoillaw14.ControlChanges'. -/
def controlChangesCard : Claim7 := { stood := { row := controlChangesRow, standIns := [], harness := (true, "720efa4ea9fa4228a7dcc6ae9e7f59f77d73edac1ad9ffd7df46dda6480e1de7"), looks := true }, kinds := [], alts := [], laidByText := true, laidKinds := [.data, .data, .data, .data, .sentinel, .sentinel, .pinned], laidTests := true, laidLooks := .later }
def ControlChangesCardSaid : Prop := Claim7.holds Tryz.pinned (.plain (OpenSpec.ofChange controlChangesSpec)) controlChangesCard

/-- THE TIED CARD OF 'counterfoillaw14.ControlClean'. -/
def controlCleanCard : Claim7 := { stood := { row := controlCleanRow, standIns := [], harness := (true, "720efa4ea9fa4228a7dcc6ae9e7f59f77d73edac1ad9ffd7df46dda6480e1de7"), looks := true }, kinds := [], alts := [], laidByText := true, laidKinds := [.data, .data, .data, .data, .sentinel, .sentinel, .pinned], laidTests := true, laidLooks := .later }
def ControlCleanCardSaid : Prop := Claim7.holds Tryz.pinned (.plain (OpenSpec.ofChange controlCleanSpec)) controlCleanCard

/-- THE TIED CARD OF 'counterfoillaw15.OptionChooses'. -/
def optionChoosesCard : Claim7 := { stood := { row := optionChoosesRow, standIns := [], harness := (true, "720efa4ea9fa4228a7dcc6ae9e7f59f77d73edac1ad9ffd7df46dda6480e1de7"), looks := true }, kinds := [], alts := [], laidByText := true, laidKinds := [.data, .data, .data, .data, .sentinel, .sentinel, .pinned], laidTests := true, laidLooks := .later }
def OptionChoosesCardSaid : Prop := Claim7.holds Tryz.pinned (.plain (OpenSpec.ofChange optionChoosesSpec)) optionChoosesCard

/-- THE TIED CARD OF 'counterfoillaw15.OptionResets'. -/
def optionResetsCard : Claim7 := { stood := { row := optionResetsRow, standIns := [], harness := (true, "720efa4ea9fa4228a7dcc6ae9e7f59f77d73edac1ad9ffd7df46dda6480e1de7"), looks := true }, kinds := [], alts := [], laidByText := true, laidKinds := [.data, .data, .data, .data, .sentinel, .sentinel, .pinned], laidTests := true, laidLooks := .later }
def OptionResetsCardSaid : Prop := Claim7.holds Tryz.pinned (.plain (OpenSpec.ofChange optionResetsSpec)) optionResetsCard

/-- THE TIED CARD OF 'counterfoillaw15.OptionOne'. -/
def optionOneCard : Claim7 := { stood := { row := optionOneRow, standIns := [], harness := (true, "720efa4ea9fa4228a7dcc6ae9e7f59f77d73edac1ad9ffd7df46dda6480e1de7"), looks := true }, kinds := [], alts := [], laidByText := true, laidKinds := [.data, .data, .data, .data, .sentinel, .sentinel, .pinned], laidTests := true, laidLooks := .later }
def OptionOneCardSaid : Prop := Claim7.holds Tryz.pinned (.plain (OpenSpec.ofChange optionOneSpec)) optionOneCard

/-- THE TIED CARD OF 'counterfoillaw15.OptionFixes'. -/
def optionFixesCard : Claim7 := { stood := { row := optionFixesRow, standIns := [], harness := (true, "720efa4ea9fa4228a7dcc6ae9e7f59f77d73edac1ad9ffd7df46dda6480e1de7"), looks := true }, kinds := [], alts := [], laidByText := true, laidKinds := [.data, .data, .data, .data, .sentinel, .sentinel, .pinned], laidTests := true, laidLooks := .later }
def OptionFixesCardSaid : Prop := Claim7.holds Tryz.pinned (.plain (OpenSpec.ofChange optionFixesSpec)) optionFixesCard

/-- THE TIED CARD OF 'counterfoillaw15.OptionLists'. -/
def optionListsCard : Claim7 := { stood := { row := optionListsRow, standIns := [], harness := (true, "720efa4ea9fa4228a7dcc6ae9e7f59f77d73edac1ad9ffd7df46dda6480e1de7"), looks := true }, kinds := [], alts := [], laidByText := true, laidKinds := [.data, .data, .data, .data, .sentinel, .sentinel, .pinned], laidTests := true, laidLooks := .later }
def OptionListsCardSaid : Prop := Claim7.holds Tryz.pinned (.plain (OpenSpec.ofChange optionListsSpec)) optionListsCard

/-- THE TIED CARD OF 'counterfoillaw15.OptionWrites'. -/
def optionWritesCard : Claim7 := { stood := { row := optionWritesRow, standIns := [], harness := (true, "720efa4ea9fa4228a7dcc6ae9e7f59f77d73edac1ad9ffd7df46dda6480e1de7"), looks := true }, kinds := [], alts := [], laidByText := true, laidKinds := [.data, .data, .data, .data, .sentinel, .sentinel, .pinned], laidTests := true, laidLooks := .later }
def OptionWritesCardSaid : Prop := Claim7.holds Tryz.pinned (.plain (OpenSpec.ofChange optionWritesSpec)) optionWritesCard

/-- THE SECOND FORM's CARD OF 'counterfoillaw14.ControlStarts'. -/
def controlStartsUptoCard : Claim7 := { stood := { row := controlStartsUptoRow, standIns := [], harness := (true, "720efa4ea9fa4228a7dcc6ae9e7f59f77d73edac1ad9ffd7df46dda6480e1de7"), looks := true }, kinds := [], alts := [], laidByText := true, laidKinds := [.data, .data, .data, .data, .sentinel, .sentinel, .pinned], laidTests := true, laidLooks := .later }
def ControlStartsUptoCardSaid : Prop := Claim7.holds Tryz.pinned (.plain (OpenSpec.upto controlStartsSpec)) controlStartsUptoCard

/-- THE SECOND FORM's CARD OF 'counterfoillaw14.ControlWrites'. -/
def controlWritesUptoCard : Claim7 := { stood := { row := controlWritesUptoRow, standIns := [], harness := (true, "720efa4ea9fa4228a7dcc6ae9e7f59f77d73edac1ad9ffd7df46dda6480e1de7"), looks := true }, kinds := [], alts := [], laidByText := true, laidKinds := [.data, .data, .data, .data, .sentinel, .sentinel, .pinned], laidTests := true, laidLooks := .later }
def ControlWritesUptoCardSaid : Prop := Claim7.holds Tryz.pinned (.plain (OpenSpec.upto controlWritesSpec)) controlWritesUptoCard

/-- THE SECOND FORM's CARD OF 'counterfoillaw14.ControlResets'. -/
def controlResetsUptoCard : Claim7 := { stood := { row := controlResetsUptoRow, standIns := [], harness := (true, "720efa4ea9fa4228a7dcc6ae9e7f59f77d73edac1ad9ffd7df46dda6480e1de7"), looks := true }, kinds := [], alts := [], laidByText := true, laidKinds := [.data, .data, .data, .data, .sentinel, .sentinel, .pinned], laidTests := true, laidLooks := .later }
def ControlResetsUptoCardSaid : Prop := Claim7.holds Tryz.pinned (.plain (OpenSpec.upto controlResetsSpec)) controlResetsUptoCard

/-- THE SECOND FORM's CARD OF 'counterfoillaw14.ControlTypes'. -/
def controlTypesUptoCard : Claim7 := { stood := { row := controlTypesUptoRow, standIns := [], harness := (true, "720efa4ea9fa4228a7dcc6ae9e7f59f77d73edac1ad9ffd7df46dda6480e1de7"), looks := true }, kinds := [], alts := [], laidByText := true, laidKinds := [.data, .data, .data, .data, .sentinel, .sentinel, .pinned], laidTests := true, laidLooks := .later }
def ControlTypesUptoCardSaid : Prop := Claim7.holds Tryz.pinned (.plain (OpenSpec.upto controlTypesSpec)) controlTypesUptoCard

/-- THE SECOND FORM's CARD OF 'counterfoillaw14.ControlChanges'. -/
def controlChangesUptoCard : Claim7 := { stood := { row := controlChangesUptoRow, standIns := [], harness := (true, "720efa4ea9fa4228a7dcc6ae9e7f59f77d73edac1ad9ffd7df46dda6480e1de7"), looks := true }, kinds := [], alts := [], laidByText := true, laidKinds := [.data, .data, .data, .data, .sentinel, .sentinel, .pinned], laidTests := true, laidLooks := .later }
def ControlChangesUptoCardSaid : Prop := Claim7.holds Tryz.pinned (.plain (OpenSpec.upto controlChangesSpec)) controlChangesUptoCard

/-- THE SECOND FORM's CARD OF 'counterfoillaw14.ControlClean'. -/
def controlCleanUptoCard : Claim7 := { stood := { row := controlCleanUptoRow, standIns := [], harness := (true, "720efa4ea9fa4228a7dcc6ae9e7f59f77d73edac1ad9ffd7df46dda6480e1de7"), looks := true }, kinds := [], alts := [], laidByText := true, laidKinds := [.data, .data, .data, .data, .sentinel, .sentinel, .pinned], laidTests := true, laidLooks := .later }
def ControlCleanUptoCardSaid : Prop := Claim7.holds Tryz.pinned (.plain (OpenSpec.upto controlCleanSpec)) controlCleanUptoCard

/-- THE SECOND FORM's CARD OF 'counterfoillaw15.OptionChooses'. -/
def optionChoosesUptoCard : Claim7 := { stood := { row := optionChoosesUptoRow, standIns := [], harness := (true, "720efa4ea9fa4228a7dcc6ae9e7f59f77d73edac1ad9ffd7df46dda6480e1de7"), looks := true }, kinds := [], alts := [], laidByText := true, laidKinds := [.data, .data, .data, .data, .sentinel, .sentinel, .pinned], laidTests := true, laidLooks := .later }
def OptionChoosesUptoCardSaid : Prop := Claim7.holds Tryz.pinned (.plain (OpenSpec.upto optionChoosesSpec)) optionChoosesUptoCard

/-- THE SECOND FORM's CARD OF 'counterfoillaw15.OptionResets'. -/
def optionResetsUptoCard : Claim7 := { stood := { row := optionResetsUptoRow, standIns := [], harness := (true, "720efa4ea9fa4228a7dcc6ae9e7f59f77d73edac1ad9ffd7df46dda6480e1de7"), looks := true }, kinds := [], alts := [], laidByText := true, laidKinds := [.data, .data, .data, .data, .sentinel, .sentinel, .pinned], laidTests := true, laidLooks := .later }
def OptionResetsUptoCardSaid : Prop := Claim7.holds Tryz.pinned (.plain (OpenSpec.upto optionResetsSpec)) optionResetsUptoCard

/-- THE SECOND FORM's CARD OF 'counterfoillaw15.OptionOne'. -/
def optionOneUptoCard : Claim7 := { stood := { row := optionOneUptoRow, standIns := [], harness := (true, "720efa4ea9fa4228a7dcc6ae9e7f59f77d73edac1ad9ffd7df46dda6480e1de7"), looks := true }, kinds := [], alts := [], laidByText := true, laidKinds := [.data, .data, .data, .data, .sentinel, .sentinel, .pinned], laidTests := true, laidLooks := .later }
def OptionOneUptoCardSaid : Prop := Claim7.holds Tryz.pinned (.plain (OpenSpec.upto optionOneSpec)) optionOneUptoCard

/-- THE SECOND FORM's CARD OF 'counterfoillaw15.OptionFixes'. -/
def optionFixesUptoCard : Claim7 := { stood := { row := optionFixesUptoRow, standIns := [], harness := (true, "720efa4ea9fa4228a7dcc6ae9e7f59f77d73edac1ad9ffd7df46dda6480e1de7"), looks := true }, kinds := [], alts := [], laidByText := true, laidKinds := [.data, .data, .data, .data, .sentinel, .sentinel, .pinned], laidTests := true, laidLooks := .later }
def OptionFixesUptoCardSaid : Prop := Claim7.holds Tryz.pinned (.plain (OpenSpec.upto optionFixesSpec)) optionFixesUptoCard

/-- THE SECOND FORM's CARD OF 'counterfoillaw15.OptionLists'. -/
def optionListsUptoCard : Claim7 := { stood := { row := optionListsUptoRow, standIns := [], harness := (true, "720efa4ea9fa4228a7dcc6ae9e7f59f77d73edac1ad9ffd7df46dda6480e1de7"), looks := true }, kinds := [], alts := [], laidByText := true, laidKinds := [.data, .data, .data, .data, .sentinel, .sentinel, .pinned], laidTests := true, laidLooks := .later }
def OptionListsUptoCardSaid : Prop := Claim7.holds Tryz.pinned (.plain (OpenSpec.upto optionListsSpec)) optionListsUptoCard

/-- THE SECOND FORM's CARD OF 'counterfoillaw15.OptionWrites'. -/
def optionWritesUptoCard : Claim7 := { stood := { row := optionWritesUptoRow, standIns := [], harness := (true, "720efa4ea9fa4228a7dcc6ae9e7f59f77d73edac1ad9ffd7df46dda6480e1de7"), looks := true }, kinds := [], alts := [], laidByText := true, laidKinds := [.data, .data, .data, .data, .sentinel, .sentinel, .pinned], laidTests := true, laidLooks := .later }
def OptionWritesUptoCardSaid : Prop := Claim7.holds Tryz.pinned (.plain (OpenSpec.upto optionWritesSpec)) optionWritesUptoCard
end Rows
end Go.Proofs.YtbhdoocajfkfiaaGreatDoor
