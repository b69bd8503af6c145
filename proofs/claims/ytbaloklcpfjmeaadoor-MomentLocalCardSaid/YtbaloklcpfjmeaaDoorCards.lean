/-
  DERIVED. GIVEN WITH THE SEED: THE CARDS: each row of YtbaloklcpfjmeaaDoorRows.lean that lists a variable, with what it lists TIED to the program's text (the seventh form; the later family's looks); each row that meets fmt, with fmt's text TOLD by the authors' own Lean function (tested against real Go, not proved from fmt's source: count such statements apart). THE CARD IS WHAT COUNTS. Prove the row's statement (the work); the ties are given (YtbaloklcpfjmeaaDoorTie.lean); close each card by the builder's one call (the guide's Derived/Test/ToyasCard.lean, 'card_holds'). Laid BY PROGRAM, IN A SANDBOX (cutbox-door.mjs). By AI agents, Wed Nov 11 2026. No macro, syntax, notation, axiom, sorry.
-/
import Derived.Test.YtbaloklcpfjmeaaDoorRows
import GoSem.ClaimSeven
namespace Go.Proofs.YtbaloklcpfjmeaaDoor
namespace Rows

/-- THE TIED CARD OF 'counterfoillaw05.MomentBack'. -/
def momentBackCard : Claim7 := { stood := { row := momentBackRow, standIns := [], harness := (true, "825190c8d207e0bacb51bba93cf9f1a7c88c80494fcccbba052d9bd71d3a9c84"), looks := true }, kinds := [], alts := [], laidByText := true, laidKinds := [.data, .data, .data, .data, .sentinel, .sentinel, .pinned], laidTests := true, laidLooks := .later }
def MomentBackCardSaid : Prop := Claim7.holds Tryd.pinned (.plain (OpenSpec.ofChange momentBackSpec)) momentBackCard

/-- THE TIED CARD OF 'counterfoillaw05.MomentNormal'. -/
def momentNormalCard : Claim7 := { stood := { row := momentNormalRow, standIns := [], harness := (true, "825190c8d207e0bacb51bba93cf9f1a7c88c80494fcccbba052d9bd71d3a9c84"), looks := true }, kinds := [], alts := [], laidByText := true, laidKinds := [.data, .data, .data, .data, .sentinel, .sentinel, .pinned], laidTests := true, laidLooks := .later }
def MomentNormalCardSaid : Prop := Claim7.holds Tryd.pinned (.plain (OpenSpec.ofChange momentNormalSpec)) momentNormalCard

/-- THE TIED CARD OF 'counterfoillaw05.MomentLocal'. -/
def momentLocalCard : Claim7 := { stood := { row := momentLocalRow, standIns := [], harness := (true, "825190c8d207e0bacb51bba93cf9f1a7c88c80494fcccbba052d9bd71d3a9c84"), looks := true }, kinds := [], alts := [], laidByText := true, laidKinds := [.data, .data, .data, .data, .sentinel, .sentinel, .pinned], laidTests := true, laidLooks := .later }
def MomentLocalCardSaid : Prop := Claim7.holds Tryd.pinned (.plain (OpenSpec.ofChange momentLocalSpec)) momentLocalCard

/-- THE SECOND FORM's CARD OF 'counterfoillaw05.MomentBack'. -/
def momentBackUptoCard : Claim7 := { stood := { row := momentBackUptoRow, standIns := [], harness := (true, "825190c8d207e0bacb51bba93cf9f1a7c88c80494fcccbba052d9bd71d3a9c84"), looks := true }, kinds := [], alts := [], laidByText := true, laidKinds := [.data, .data, .data, .data, .sentinel, .sentinel, .pinned], laidTests := true, laidLooks := .later }
def MomentBackUptoCardSaid : Prop := Claim7.holds Tryd.pinned (.plain (OpenSpec.upto momentBackSpec)) momentBackUptoCard

/-- THE SECOND FORM's CARD OF 'counterfoillaw05.MomentNormal'. -/
def momentNormalUptoCard : Claim7 := { stood := { row := momentNormalUptoRow, standIns := [], harness := (true, "825190c8d207e0bacb51bba93cf9f1a7c88c80494fcccbba052d9bd71d3a9c84"), looks := true }, kinds := [], alts := [], laidByText := true, laidKinds := [.data, .data, .data, .data, .sentinel, .sentinel, .pinned], laidTests := true, laidLooks := .later }
def MomentNormalUptoCardSaid : Prop := Claim7.holds Tryd.pinned (.plain (OpenSpec.upto momentNormalSpec)) momentNormalUptoCard

/-- THE SECOND FORM's CARD OF 'counterfoillaw05.MomentLocal'. -/
def momentLocalUptoCard : Claim7 := { stood := { row := momentLocalUptoRow, standIns := [], harness := (true, "825190c8d207e0bacb51bba93cf9f1a7c88c80494fcccbba052d9bd71d3a9c84"), looks := true }, kinds := [], alts := [], laidByText := true, laidKinds := [.data, .data, .data, .data, .sentinel, .sentinel, .pinned], laidTests := true, laidLooks := .later }
def MomentLocalUptoCardSaid : Prop := Claim7.holds Tryd.pinned (.plain (OpenSpec.upto momentLocalSpec)) momentLocalUptoCard
end Rows
end Go.Proofs.YtbaloklcpfjmeaaDoor
