/-
  DERIVED. GIVEN WITH THE SEED: THE CARDS: each row of YtoajgfhcongocaaGreatDoorRows.lean that lists a variable, with what it lists TIED to the program's text (the seventh form; the later family's looks); each row that meets fmt, with fmt's text TOLD by the authors' own Lean function (tested against real Go, not proved from fmt's source: count such statements apart). THE CARD IS WHAT COUNTS. Prove the row's statement (the work); the ties are given (YtoajgfhcongocaaGreatDoorTie.lean); close each card by the builder's one call (the guide's Derived/Test/ToyasCard.lean, 'card_holds'). Laid BY PROGRAM, IN A SANDBOX (cutbox-door.mjs). By AI agents, Wed Nov 11 2026. No macro, syntax, notation, axiom, sorry.
-/
import Derived.Test.YtoajgfhcongocaaGreatDoorRows
import GoSem.ClaimSeven
namespace Go.Proofs.YtoajgfhcongocaaGreatDoor
namespace Rows

/-- THE TIED CARD OF 'counterfoillaw15.OptionChooses'. -/
def optionChoosesCard : Claim7 := { stood := { row := optionChoosesRow, standIns := [], harness := (true, "810bd5b9f87c059f6fe96e1d35ea62ad5f1bc751f242a86311c7c7bcd162746d"), looks := true }, kinds := [], alts := [], laidByText := true, laidKinds := [.data, .data, .data, .data, .sentinel, .sentinel, .pinned], laidTests := true, laidLooks := .later }
def OptionChoosesCardSaid : Prop := Claim7.holds Tryz.pinned (.plain (OpenSpec.ofChange optionChoosesSpec)) optionChoosesCard

/-- THE TIED CARD OF 'counterfoillaw15.OptionResets'. -/
def optionResetsCard : Claim7 := { stood := { row := optionResetsRow, standIns := [], harness := (true, "810bd5b9f87c059f6fe96e1d35ea62ad5f1bc751f242a86311c7c7bcd162746d"), looks := true }, kinds := [], alts := [], laidByText := true, laidKinds := [.data, .data, .data, .data, .sentinel, .sentinel, .pinned], laidTests := true, laidLooks := .later }
def OptionResetsCardSaid : Prop := Claim7.holds Tryz.pinned (.plain (OpenSpec.ofChange optionResetsSpec)) optionResetsCard

/-- THE TIED CARD OF 'counterfoillaw15.OptionOne'. -/
def optionOneCard : Claim7 := { stood := { row := optionOneRow, standIns := [], harness := (true, "810bd5b9f87c059f6fe96e1d35ea62ad5f1bc751f242a86311c7c7bcd162746d"), looks := true }, kinds := [], alts := [], laidByText := true, laidKinds := [.data, .data, .data, .data, .sentinel, .sentinel, .pinned], laidTests := true, laidLooks := .later }
def OptionOneCardSaid : Prop := Claim7.holds Tryz.pinned (.plain (OpenSpec.ofChange optionOneSpec)) optionOneCard

/-- THE TIED CARD OF 'counterfoillaw15.OptionFixes'. -/
def optionFixesCard : Claim7 := { stood := { row := optionFixesRow, standIns := [], harness := (true, "810bd5b9f87c059f6fe96e1d35ea62ad5f1bc751f242a86311c7c7bcd162746d"), looks := true }, kinds := [], alts := [], laidByText := true, laidKinds := [.data, .data, .data, .data, .sentinel, .sentinel, .pinned], laidTests := true, laidLooks := .later }
def OptionFixesCardSaid : Prop := Claim7.holds Tryz.pinned (.plain (OpenSpec.ofChange optionFixesSpec)) optionFixesCard

/-- THE TIED CARD OF 'counterfoillaw15.OptionLists'. -/
def optionListsCard : Claim7 := { stood := { row := optionListsRow, standIns := [], harness := (true, "810bd5b9f87c059f6fe96e1d35ea62ad5f1bc751f242a86311c7c7bcd162746d"), looks := true }, kinds := [], alts := [], laidByText := true, laidKinds := [.data, .data, .data, .data, .sentinel, .sentinel, .pinned], laidTests := true, laidLooks := .later }
def OptionListsCardSaid : Prop := Claim7.holds Tryz.pinned (.plain (OpenSpec.ofChange optionListsSpec)) optionListsCard

/-- THE TIED CARD OF 'counterfoillaw15.OptionWrites'. -/
def optionWritesCard : Claim7 := { stood := { row := optionWritesRow, standIns := [], harness := (true, "810bd5b9f87c059f6fe96e1d35ea62ad5f1bc751f242a86311c7c7bcd162746d"), looks := true }, kinds := [], alts := [], laidByText := true, laidKinds := [.data, .data, .data, .data, .sentinel, .sentinel, .pinned], laidTests := true, laidLooks := .later }
def OptionWritesCardSaid : Prop := Claim7.holds Tryz.pinned (.plain (OpenSpec.ofChange optionWritesSpec)) optionWritesCard

/-- THE SECOND FORM's CARD OF 'counterfoillaw15.OptionChooses'. -/
def optionChoosesUptoCard : Claim7 := { stood := { row := optionChoosesUptoRow, standIns := [], harness := (true, "810bd5b9f87c059f6fe96e1d35ea62ad5f1bc751f242a86311c7c7bcd162746d"), looks := true }, kinds := [], alts := [], laidByText := true, laidKinds := [.data, .data, .data, .data, .sentinel, .sentinel, .pinned], laidTests := true, laidLooks := .later }
def OptionChoosesUptoCardSaid : Prop := Claim7.holds Tryz.pinned (.plain (OpenSpec.upto optionChoosesSpec)) optionChoosesUptoCard

/-- THE SECOND FORM's CARD OF 'counterfoillaw15.OptionResets'. -/
def optionResetsUptoCard : Claim7 := { stood := { row := optionResetsUptoRow, standIns := [], harness := (true, "810bd5b9f87c059f6fe96e1d35ea62ad5f1bc751f242a86311c7c7bcd162746d"), looks := true }, kinds := [], alts := [], laidByText := true, laidKinds := [.data, .data, .data, .data, .sentinel, .sentinel, .pinned], laidTests := true, laidLooks := .later }
def OptionResetsUptoCardSaid : Prop := Claim7.holds Tryz.pinned (.plain (OpenSpec.upto optionResetsSpec)) optionResetsUptoCard

/-- THE SECOND FORM's CARD OF 'counterfoillaw15.OptionOne'. -/
def optionOneUptoCard : Claim7 := { stood := { row := optionOneUptoRow, standIns := [], harness := (true, "810bd5b9f87c059f6fe96e1d35ea62ad5f1bc751f242a86311c7c7bcd162746d"), looks := true }, kinds := [], alts := [], laidByText := true, laidKinds := [.data, .data, .data, .data, .sentinel, .sentinel, .pinned], laidTests := true, laidLooks := .later }
def OptionOneUptoCardSaid : Prop := Claim7.holds Tryz.pinned (.plain (OpenSpec.upto optionOneSpec)) optionOneUptoCard

/-- THE SECOND FORM's CARD OF 'counterfoillaw15.OptionFixes'. -/
def optionFixesUptoCard : Claim7 := { stood := { row := optionFixesUptoRow, standIns := [], harness := (true, "810bd5b9f87c059f6fe96e1d35ea62ad5f1bc751f242a86311c7c7bcd162746d"), looks := true }, kinds := [], alts := [], laidByText := true, laidKinds := [.data, .data, .data, .data, .sentinel, .sentinel, .pinned], laidTests := true, laidLooks := .later }
def OptionFixesUptoCardSaid : Prop := Claim7.holds Tryz.pinned (.plain (OpenSpec.upto optionFixesSpec)) optionFixesUptoCard

/-- THE SECOND FORM's CARD OF 'counterfoillaw15.OptionLists'. -/
def optionListsUptoCard : Claim7 := { stood := { row := optionListsUptoRow, standIns := [], harness := (true, "810bd5b9f87c059f6fe96e1d35ea62ad5f1bc751f242a86311c7c7bcd162746d"), looks := true }, kinds := [], alts := [], laidByText := true, laidKinds := [.data, .data, .data, .data, .sentinel, .sentinel, .pinned], laidTests := true, laidLooks := .later }
def OptionListsUptoCardSaid : Prop := Claim7.holds Tryz.pinned (.plain (OpenSpec.upto optionListsSpec)) optionListsUptoCard

/-- THE SECOND FORM's CARD OF 'counterfoillaw15.OptionWrites'. -/
def optionWritesUptoCard : Claim7 := { stood := { row := optionWritesUptoRow, standIns := [], harness := (true, "810bd5b9f87c059f6fe96e1d35ea62ad5f1bc751f242a86311c7c7bcd162746d"), looks := true }, kinds := [], alts := [], laidByText := true, laidKinds := [.data, .data, .data, .data, .sentinel, .sentinel, .pinned], laidTests := true, laidLooks := .later }
def OptionWritesUptoCardSaid : Prop := Claim7.holds Tryz.pinned (.plain (OpenSpec.upto optionWritesSpec)) optionWritesUptoCard
end Rows
end Go.Proofs.YtoajgfhcongocaaGreatDoor
