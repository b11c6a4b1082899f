/-
  DERIVED. GIVEN WITH THE SEED: THE CARDS: each row of YtgllkknleombjaaDoorRows.lean that lists a variable, with what it lists TIED to the program's text (the seventh form; the later family's looks); each row that meets fmt, with fmt's text TOLD by the authors' own Lean function (tested against real Go, not proved from fmt's source: count such statements apart). THE CARD IS WHAT COUNTS. Prove the row's statement (the work); the ties are given (YtgllkknleombjaaDoorTie.lean); close each card by the builder's one call (the guide's Derived/Test/ToyasCard.lean, 'card_holds'). Laid BY PROGRAM, IN A SANDBOX (cutbox-door.mjs). By AI agents, Wed Nov 11 2026. No macro, syntax, notation, axiom, sorry.
-/
import Derived.Test.YtgllkknleombjaaDoorRows
import GoSem.ClaimSeven
namespace Go.Proofs.YtgllkknleombjaaDoor
namespace Rows

/-- THE TIED CARD OF 'reveillelaw11.SensorParts'. -/
def sensorPartsCard : Claim7 := { stood := { row := sensorPartsRow, standIns := [], harness := (true, "0e93dfdc06b4924024aead1f1d213077b955c609425385669de83c9db8c1bb51"), looks := false }, kinds := [], alts := [], laidByText := true, laidKinds := [.data], laidTests := true, laidLooks := .later }
def SensorPartsCardSaid : Prop := Claim7.holds Tryd.pinned (.plain (OpenSpec.ofChange sensorPartsSpec)) sensorPartsCard

/-- THE TIED CARD OF 'reveillelaw11.SensorNames'. -/
def sensorNamesCard : Claim7 := { stood := { row := sensorNamesRow, standIns := [], harness := (true, "0e93dfdc06b4924024aead1f1d213077b955c609425385669de83c9db8c1bb51"), looks := false }, kinds := [], alts := [], laidByText := true, laidKinds := [.data], laidTests := true, laidLooks := .later }
def SensorNamesCardSaid : Prop := Claim7.holds Tryd.pinned (.plain (OpenSpec.ofChange sensorNamesSpec)) sensorNamesCard

/-- THE SECOND FORM's CARD OF 'reveillelaw11.SensorParts'. -/
def sensorPartsUptoCard : Claim7 := { stood := { row := sensorPartsUptoRow, standIns := [], harness := (true, "0e93dfdc06b4924024aead1f1d213077b955c609425385669de83c9db8c1bb51"), looks := false }, kinds := [], alts := [], laidByText := true, laidKinds := [.data], laidTests := true, laidLooks := .later }
def SensorPartsUptoCardSaid : Prop := Claim7.holds Tryd.pinned (.plain (OpenSpec.upto sensorPartsSpec)) sensorPartsUptoCard

/-- THE SECOND FORM's CARD OF 'reveillelaw11.SensorNames'. -/
def sensorNamesUptoCard : Claim7 := { stood := { row := sensorNamesUptoRow, standIns := [], harness := (true, "0e93dfdc06b4924024aead1f1d213077b955c609425385669de83c9db8c1bb51"), looks := false }, kinds := [], alts := [], laidByText := true, laidKinds := [.data], laidTests := true, laidLooks := .later }
def SensorNamesUptoCardSaid : Prop := Claim7.holds Tryd.pinned (.plain (OpenSpec.upto sensorNamesSpec)) sensorNamesUptoCard
end Rows
end Go.Proofs.YtgllkknleombjaaDoor
