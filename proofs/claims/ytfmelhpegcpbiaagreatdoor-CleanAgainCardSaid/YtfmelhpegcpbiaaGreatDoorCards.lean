/-
  DERIVED. GIVEN WITH THE SEED: THE CARDS: each row of YtfmelhpegcpbiaaGreatDoorRows.lean that lists a variable, with what it lists TIED to the program's text (the seventh form; the later family's looks); each row that meets fmt, with fmt's text TOLD by the authors' own Lean function (tested against real Go, not proved from fmt's source: count such statements apart). THE CARD IS WHAT COUNTS. Prove the row's statement (the work); the ties are given (YtfmelhpegcpbiaaGreatDoorTie.lean); close each card by the builder's one call (the guide's Derived/Test/ToyasCard.lean, 'card_holds'). Laid BY PROGRAM, IN A SANDBOX (cutbox-door.mjs). By AI agents, Wed Nov 11 2026. No macro, syntax, notation, axiom, sorry.
-/
import Derived.Test.YtfmelhpegcpbiaaGreatDoorRows
import GoSem.ClaimSeven
namespace Go.Proofs.YtfmelhpegcpbiaaGreatDoor
namespace Rows

/-- THE TIED CARD OF 'counterfoillaw12.StepBounds'. -/
def stepBoundsCard : Claim7 := { stood := { row := stepBoundsRow, standIns := [], harness := (true, "34f5b8507dfd750ea866b1d6b96bbf299cf7fe4f773e91942fdfb30c0d6fab80"), looks := true }, kinds := [], alts := [], laidByText := true, laidKinds := [.data, .data, .data, .data, .sentinel, .sentinel, .pinned], laidTests := true, laidLooks := .later }
def StepBoundsCardSaid : Prop := Claim7.holds Tryz.pinned (.plain (OpenSpec.ofChange stepBoundsSpec)) stepBoundsCard

/-- THE TIED CARD OF 'counterfoillaw12.StepSteps'. -/
def stepStepsCard : Claim7 := { stood := { row := stepStepsRow, standIns := [], harness := (true, "34f5b8507dfd750ea866b1d6b96bbf299cf7fe4f773e91942fdfb30c0d6fab80"), looks := true }, kinds := [], alts := [], laidByText := true, laidKinds := [.data, .data, .data, .data, .sentinel, .sentinel, .pinned], laidTests := true, laidLooks := .later }
def StepStepsCardSaid : Prop := Claim7.holds Tryz.pinned (.plain (OpenSpec.ofChange stepStepsSpec)) stepStepsCard

/-- THE TIED CARD OF 'counterfoillaw12.StepFlags'. -/
def stepFlagsCard : Claim7 := { stood := { row := stepFlagsRow, standIns := [], harness := (true, "34f5b8507dfd750ea866b1d6b96bbf299cf7fe4f773e91942fdfb30c0d6fab80"), looks := true }, kinds := [], alts := [], laidByText := true, laidKinds := [.data, .data, .data, .data, .sentinel, .sentinel, .pinned], laidTests := true, laidLooks := .later }
def StepFlagsCardSaid : Prop := Claim7.holds Tryz.pinned (.plain (OpenSpec.ofChange stepFlagsSpec)) stepFlagsCard

/-- THE TIED CARD OF 'counterfoillaw12.StepValues'. -/
def stepValuesCard : Claim7 := { stood := { row := stepValuesRow, standIns := [], harness := (true, "34f5b8507dfd750ea866b1d6b96bbf299cf7fe4f773e91942fdfb30c0d6fab80"), looks := true }, kinds := [], alts := [], laidByText := true, laidKinds := [.data, .data, .data, .data, .sentinel, .sentinel, .pinned], laidTests := true, laidLooks := .later }
def StepValuesCardSaid : Prop := Claim7.holds Tryz.pinned (.plain (OpenSpec.ofChange stepValuesSpec)) stepValuesCard

/-- THE TIED CARD OF 'counterfoillaw12.StepInside'. -/
def stepInsideCard : Claim7 := { stood := { row := stepInsideRow, standIns := [], harness := (true, "34f5b8507dfd750ea866b1d6b96bbf299cf7fe4f773e91942fdfb30c0d6fab80"), looks := true }, kinds := [], alts := [], laidByText := true, laidKinds := [.data, .data, .data, .data, .sentinel, .sentinel, .pinned], laidTests := true, laidLooks := .later }
def StepInsideCardSaid : Prop := Claim7.holds Tryz.pinned (.plain (OpenSpec.ofChange stepInsideSpec)) stepInsideCard

/-- THE TIED CARD OF 'counterfoillaw13.CleanValues'. -/
def cleanValuesCard : Claim7 := { stood := { row := cleanValuesRow, standIns := [], harness := (true, "34f5b8507dfd750ea866b1d6b96bbf299cf7fe4f773e91942fdfb30c0d6fab80"), looks := true }, kinds := [], alts := [], laidByText := true, laidKinds := [.data, .data, .data, .data, .sentinel, .sentinel, .pinned], laidTests := true, laidLooks := .later }
def CleanValuesCardSaid : Prop := Claim7.holds Tryz.pinned (.plain (OpenSpec.ofChange cleanValuesSpec)) cleanValuesCard

/-- THE TIED CARD OF 'counterfoillaw13.CleanAgain'. -/
def cleanAgainCard : Claim7 := { stood := { row := cleanAgainRow, standIns := [], harness := (true, "34f5b8507dfd750ea866b1d6b96bbf299cf7fe4f773e91942fdfb30c0d6fab80"), looks := true }, kinds := [], alts := [], laidByText := true, laidKinds := [.data, .data, .data, .data, .sentinel, .sentinel, .pinned], laidTests := true, laidLooks := .later }
def CleanAgainCardSaid : Prop := Claim7.holds Tryz.pinned (.plain (OpenSpec.ofChange cleanAgainSpec)) cleanAgainCard

/-- THE TIED CARD OF 'counterfoillaw13.CleanRange'. -/
def cleanRangeCard : Claim7 := { stood := { row := cleanRangeRow, standIns := [], harness := (true, "34f5b8507dfd750ea866b1d6b96bbf299cf7fe4f773e91942fdfb30c0d6fab80"), looks := true }, kinds := [], alts := [], laidByText := true, laidKinds := [.data, .data, .data, .data, .sentinel, .sentinel, .pinned], laidTests := true, laidLooks := .later }
def CleanRangeCardSaid : Prop := Claim7.holds Tryz.pinned (.plain (OpenSpec.ofChange cleanRangeSpec)) cleanRangeCard

/-- THE TIED CARD OF 'counterfoillaw13.CleanSteps'. -/
def cleanStepsCard : Claim7 := { stood := { row := cleanStepsRow, standIns := [], harness := (true, "34f5b8507dfd750ea866b1d6b96bbf299cf7fe4f773e91942fdfb30c0d6fab80"), looks := true }, kinds := [], alts := [], laidByText := true, laidKinds := [.data, .data, .data, .data, .sentinel, .sentinel, .pinned], laidTests := true, laidLooks := .later }
def CleanStepsCardSaid : Prop := Claim7.holds Tryz.pinned (.plain (OpenSpec.ofChange cleanStepsSpec)) cleanStepsCard

/-- THE TIED CARD OF 'counterfoillaw13.CleanDefaults'. -/
def cleanDefaultsCard : Claim7 := { stood := { row := cleanDefaultsRow, standIns := [], harness := (true, "34f5b8507dfd750ea866b1d6b96bbf299cf7fe4f773e91942fdfb30c0d6fab80"), looks := true }, kinds := [], alts := [], laidByText := true, laidKinds := [.data, .data, .data, .data, .sentinel, .sentinel, .pinned], laidTests := true, laidLooks := .later }
def CleanDefaultsCardSaid : Prop := Claim7.holds Tryz.pinned (.plain (OpenSpec.ofChange cleanDefaultsSpec)) cleanDefaultsCard

/-- THE SECOND FORM's CARD OF 'counterfoillaw12.StepBounds'. -/
def stepBoundsUptoCard : Claim7 := { stood := { row := stepBoundsUptoRow, standIns := [], harness := (true, "34f5b8507dfd750ea866b1d6b96bbf299cf7fe4f773e91942fdfb30c0d6fab80"), looks := true }, kinds := [], alts := [], laidByText := true, laidKinds := [.data, .data, .data, .data, .sentinel, .sentinel, .pinned], laidTests := true, laidLooks := .later }
def StepBoundsUptoCardSaid : Prop := Claim7.holds Tryz.pinned (.plain (OpenSpec.upto stepBoundsSpec)) stepBoundsUptoCard

/-- THE SECOND FORM's CARD OF 'counterfoillaw12.StepSteps'. -/
def stepStepsUptoCard : Claim7 := { stood := { row := stepStepsUptoRow, standIns := [], harness := (true, "34f5b8507dfd750ea866b1d6b96bbf299cf7fe4f773e91942fdfb30c0d6fab80"), looks := true }, kinds := [], alts := [], laidByText := true, laidKinds := [.data, .data, .data, .data, .sentinel, .sentinel, .pinned], laidTests := true, laidLooks := .later }
def StepStepsUptoCardSaid : Prop := Claim7.holds Tryz.pinned (.plain (OpenSpec.upto stepStepsSpec)) stepStepsUptoCard

/-- THE SECOND FORM's CARD OF 'counterfoillaw12.StepFlags'. -/
def stepFlagsUptoCard : Claim7 := { stood := { row := stepFlagsUptoRow, standIns := [], harness := (true, "34f5b8507dfd750ea866b1d6b96bbf299cf7fe4f773e91942fdfb30c0d6fab80"), looks := true }, kinds := [], alts := [], laidByText := true, laidKinds := [.data, .data, .data, .data, .sentinel, .sentinel, .pinned], laidTests := true, laidLooks := .later }
def StepFlagsUptoCardSaid : Prop := Claim7.holds Tryz.pinned (.plain (OpenSpec.upto stepFlagsSpec)) stepFlagsUptoCard

/-- THE SECOND FORM's CARD OF 'counterfoillaw12.StepValues'. -/
def stepValuesUptoCard : Claim7 := { stood := { row := stepValuesUptoRow, standIns := [], harness := (true, "34f5b8507dfd750ea866b1d6b96bbf299cf7fe4f773e91942fdfb30c0d6fab80"), looks := true }, kinds := [], alts := [], laidByText := true, laidKinds := [.data, .data, .data, .data, .sentinel, .sentinel, .pinned], laidTests := true, laidLooks := .later }
def StepValuesUptoCardSaid : Prop := Claim7.holds Tryz.pinned (.plain (OpenSpec.upto stepValuesSpec)) stepValuesUptoCard

/-- THE SECOND FORM's CARD OF 'counterfoillaw12.StepInside'. -/
def stepInsideUptoCard : Claim7 := { stood := { row := stepInsideUptoRow, standIns := [], harness := (true, "34f5b8507dfd750ea866b1d6b96bbf299cf7fe4f773e91942fdfb30c0d6fab80"), looks := true }, kinds := [], alts := [], laidByText := true, laidKinds := [.data, .data, .data, .data, .sentinel, .sentinel, .pinned], laidTests := true, laidLooks := .later }
def StepInsideUptoCardSaid : Prop := Claim7.holds Tryz.pinned (.plain (OpenSpec.upto stepInsideSpec)) stepInsideUptoCard

/-- THE SECOND FORM's CARD OF 'counterfoillaw13.CleanValues'. -/
def cleanValuesUptoCard : Claim7 := { stood := { row := cleanValuesUptoRow, standIns := [], harness := (true, "34f5b8507dfd750ea866b1d6b96bbf299cf7fe4f773e91942fdfb30c0d6fab80"), looks := true }, kinds := [], alts := [], laidByText := true, laidKinds := [.data, .data, .data, .data, .sentinel, .sentinel, .pinned], laidTests := true, laidLooks := .later }
def CleanValuesUptoCardSaid : Prop := Claim7.holds Tryz.pinned (.plain (OpenSpec.upto cleanValuesSpec)) cleanValuesUptoCard

/-- THE SECOND FORM's CARD OF 'counterfoillaw13.CleanAgain'. -/
def cleanAgainUptoCard : Claim7 := { stood := { row := cleanAgainUptoRow, standIns := [], harness := (true, "34f5b8507dfd750ea866b1d6b96bbf299cf7fe4f773e91942fdfb30c0d6fab80"), looks := true }, kinds := [], alts := [], laidByText := true, laidKinds := [.data, .data, .data, .data, .sentinel, .sentinel, .pinned], laidTests := true, laidLooks := .later }
def CleanAgainUptoCardSaid : Prop := Claim7.holds Tryz.pinned (.plain (OpenSpec.upto cleanAgainSpec)) cleanAgainUptoCard

/-- THE SECOND FORM's CARD OF 'counterfoillaw13.CleanRange'. -/
def cleanRangeUptoCard : Claim7 := { stood := { row := cleanRangeUptoRow, standIns := [], harness := (true, "34f5b8507dfd750ea866b1d6b96bbf299cf7fe4f773e91942fdfb30c0d6fab80"), looks := true }, kinds := [], alts := [], laidByText := true, laidKinds := [.data, .data, .data, .data, .sentinel, .sentinel, .pinned], laidTests := true, laidLooks := .later }
def CleanRangeUptoCardSaid : Prop := Claim7.holds Tryz.pinned (.plain (OpenSpec.upto cleanRangeSpec)) cleanRangeUptoCard

/-- THE SECOND FORM's CARD OF 'counterfoillaw13.CleanSteps'. -/
def cleanStepsUptoCard : Claim7 := { stood := { row := cleanStepsUptoRow, standIns := [], harness := (true, "34f5b8507dfd750ea866b1d6b96bbf299cf7fe4f773e91942fdfb30c0d6fab80"), looks := true }, kinds := [], alts := [], laidByText := true, laidKinds := [.data, .data, .data, .data, .sentinel, .sentinel, .pinned], laidTests := true, laidLooks := .later }
def CleanStepsUptoCardSaid : Prop := Claim7.holds Tryz.pinned (.plain (OpenSpec.upto cleanStepsSpec)) cleanStepsUptoCard

/-- THE SECOND FORM's CARD OF 'counterfoillaw13.CleanDefaults'. -/
def cleanDefaultsUptoCard : Claim7 := { stood := { row := cleanDefaultsUptoRow, standIns := [], harness := (true, "34f5b8507dfd750ea866b1d6b96bbf299cf7fe4f773e91942fdfb30c0d6fab80"), looks := true }, kinds := [], alts := [], laidByText := true, laidKinds := [.data, .data, .data, .data, .sentinel, .sentinel, .pinned], laidTests := true, laidLooks := .later }
def CleanDefaultsUptoCardSaid : Prop := Claim7.holds Tryz.pinned (.plain (OpenSpec.upto cleanDefaultsSpec)) cleanDefaultsUptoCard
end Rows
end Go.Proofs.YtfmelhpegcpbiaaGreatDoor
