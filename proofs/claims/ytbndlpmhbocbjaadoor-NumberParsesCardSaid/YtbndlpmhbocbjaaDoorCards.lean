/-
  DERIVED. GIVEN WITH THE SEED: THE CARDS: each row of YtbndlpmhbocbjaaDoorRows.lean that lists a variable, with what it lists TIED to the program's text (the seventh form; the later family's looks); each row that meets fmt, with fmt's text TOLD by the authors' own Lean function (tested against real Go, not proved from fmt's source: count such statements apart). THE CARD IS WHAT COUNTS. Prove the row's statement (the work); the ties are given (YtbndlpmhbocbjaaDoorTie.lean); close each card by the builder's one call (the guide's Derived/Test/ToyasCard.lean, 'card_holds'). Laid BY PROGRAM, IN A SANDBOX (cutbox-door.mjs). By AI agents, Wed Nov 11 2026. No macro, syntax, notation, axiom, sorry.
-/
import Derived.Test.YtbndlpmhbocbjaaDoorRows
import GoSem.ClaimSeven
namespace Go.Proofs.YtbndlpmhbocbjaaDoor
namespace Rows

/-- THE TIED CARD OF 'counterfoillaw03.NumberShows'. -/
def numberShowsCard : Claim7 := { stood := { row := numberShowsRow, standIns := [], harness := (true, "3ef51e22241646bde4174b8012cf47d2956f4af799201c1be72d9a81436315cc"), looks := true }, kinds := [], alts := [], laidByText := true, laidKinds := [.data, .data, .data, .data, .pinned], laidTests := true, laidLooks := .later }
def NumberShowsCardSaid : Prop := Claim7.holds Tryd.pinned (.plain (OpenSpec.ofChange numberShowsSpec)) numberShowsCard

/-- THE TIED CARD OF 'counterfoillaw03.NumberParses'. -/
def numberParsesCard : Claim7 := { stood := { row := numberParsesRow, standIns := [], harness := (true, "3ef51e22241646bde4174b8012cf47d2956f4af799201c1be72d9a81436315cc"), looks := true }, kinds := [], alts := [], laidByText := true, laidKinds := [.data, .data, .data, .data, .sentinel, .sentinel, .pinned], laidTests := true, laidLooks := .later }
def NumberParsesCardSaid : Prop := Claim7.holds Tryd.pinned (.plain (OpenSpec.ofChange numberParsesSpec)) numberParsesCard

/-- THE TIED CARD OF 'counterfoillaw03.NumberBack'. -/
def numberBackCard : Claim7 := { stood := { row := numberBackRow, standIns := [], harness := (true, "3ef51e22241646bde4174b8012cf47d2956f4af799201c1be72d9a81436315cc"), looks := true }, kinds := [], alts := [], laidByText := true, laidKinds := [.data, .data, .data, .data, .sentinel, .sentinel, .pinned], laidTests := true, laidLooks := .later }
def NumberBackCardSaid : Prop := Claim7.holds Tryd.pinned (.plain (OpenSpec.ofChange numberBackSpec)) numberBackCard

/-- THE TIED CARD OF 'counterfoillaw03.NumberNormal'. -/
def numberNormalCard : Claim7 := { stood := { row := numberNormalRow, standIns := [], harness := (true, "3ef51e22241646bde4174b8012cf47d2956f4af799201c1be72d9a81436315cc"), looks := true }, kinds := [], alts := [], laidByText := true, laidKinds := [.data, .data, .data, .data, .sentinel, .sentinel, .pinned], laidTests := true, laidLooks := .later }
def NumberNormalCardSaid : Prop := Claim7.holds Tryd.pinned (.plain (OpenSpec.ofChange numberNormalSpec)) numberNormalCard

/-- THE SECOND FORM's CARD OF 'counterfoillaw03.NumberShows'. -/
def numberShowsUptoCard : Claim7 := { stood := { row := numberShowsUptoRow, standIns := [], harness := (true, "3ef51e22241646bde4174b8012cf47d2956f4af799201c1be72d9a81436315cc"), looks := true }, kinds := [], alts := [], laidByText := true, laidKinds := [.data, .data, .data, .data, .pinned], laidTests := true, laidLooks := .later }
def NumberShowsUptoCardSaid : Prop := Claim7.holds Tryd.pinned (.plain (OpenSpec.upto numberShowsSpec)) numberShowsUptoCard

/-- THE SECOND FORM's CARD OF 'counterfoillaw03.NumberParses'. -/
def numberParsesUptoCard : Claim7 := { stood := { row := numberParsesUptoRow, standIns := [], harness := (true, "3ef51e22241646bde4174b8012cf47d2956f4af799201c1be72d9a81436315cc"), looks := true }, kinds := [], alts := [], laidByText := true, laidKinds := [.data, .data, .data, .data, .sentinel, .sentinel, .pinned], laidTests := true, laidLooks := .later }
def NumberParsesUptoCardSaid : Prop := Claim7.holds Tryd.pinned (.plain (OpenSpec.upto numberParsesSpec)) numberParsesUptoCard

/-- THE SECOND FORM's CARD OF 'counterfoillaw03.NumberBack'. -/
def numberBackUptoCard : Claim7 := { stood := { row := numberBackUptoRow, standIns := [], harness := (true, "3ef51e22241646bde4174b8012cf47d2956f4af799201c1be72d9a81436315cc"), looks := true }, kinds := [], alts := [], laidByText := true, laidKinds := [.data, .data, .data, .data, .sentinel, .sentinel, .pinned], laidTests := true, laidLooks := .later }
def NumberBackUptoCardSaid : Prop := Claim7.holds Tryd.pinned (.plain (OpenSpec.upto numberBackSpec)) numberBackUptoCard

/-- THE SECOND FORM's CARD OF 'counterfoillaw03.NumberNormal'. -/
def numberNormalUptoCard : Claim7 := { stood := { row := numberNormalUptoRow, standIns := [], harness := (true, "3ef51e22241646bde4174b8012cf47d2956f4af799201c1be72d9a81436315cc"), looks := true }, kinds := [], alts := [], laidByText := true, laidKinds := [.data, .data, .data, .data, .sentinel, .sentinel, .pinned], laidTests := true, laidLooks := .later }
def NumberNormalUptoCardSaid : Prop := Claim7.holds Tryd.pinned (.plain (OpenSpec.upto numberNormalSpec)) numberNormalUptoCard
end Rows
end Go.Proofs.YtbndlpmhbocbjaaDoor
