/-
  DERIVED. GIVEN WITH THE SEED: THE CARDS: each row of YtpheeljemkpnaaaDoorRows.lean that lists a variable, with what it lists TIED to the program's text (the seventh form; the later family's looks); each row that meets fmt, with fmt's text TOLD by the authors' own Lean function (tested against real Go, not proved from fmt's source: count such statements apart). THE CARD IS WHAT COUNTS. Prove the row's statement (the work); the ties are given (YtpheeljemkpnaaaDoorTie.lean); close each card by the builder's one call (the guide's Derived/Test/ToyasCard.lean, 'card_holds'). Laid BY PROGRAM, IN A SANDBOX (cutbox-door.mjs). By AI agents, Wed Nov 11 2026. No macro, syntax, notation, axiom, sorry.
-/
import Derived.Test.YtpheeljemkpnaaaDoorRows
import GoSem.ClaimSeven
namespace Go.Proofs.YtpheeljemkpnaaaDoor
namespace Rows

/-- THE TIED CARD OF 'tolllaw27.StateRuns'. -/
def stateRunsCard : Claim7 := { stood := { row := stateRunsRow, standIns := [], harness := (true, "35725214224aa8bc5a059bd9ad3ef15b920d418aeb191ac7acaa855d80d8fb3e"), looks := false }, kinds := [], alts := [], laidByText := true, laidKinds := [.data, .widerDeep], laidTests := true, laidLooks := .later }
def StateRunsCardSaid : Prop := Claim7.holds Tryd.pinned (.plain (OpenSpec.ofChange stateRunsSpec)) stateRunsCard

/-- THE TIED CARD OF 'tolllaw27.StateSteps'. -/
def stateStepsCard : Claim7 := { stood := { row := stateStepsRow, standIns := [], harness := (true, "35725214224aa8bc5a059bd9ad3ef15b920d418aeb191ac7acaa855d80d8fb3e"), looks := false }, kinds := [], alts := [], laidByText := true, laidKinds := [.data, .widerDeep], laidTests := true, laidLooks := .later }
def StateStepsCardSaid : Prop := Claim7.holds Tryd.pinned (.plain (OpenSpec.ofChange stateStepsSpec)) stateStepsCard

/-- THE TIED CARD OF 'tolllaw27.StateSides'. -/
def stateSidesCard : Claim7 := { stood := { row := stateSidesRow, standIns := [], harness := (true, "35725214224aa8bc5a059bd9ad3ef15b920d418aeb191ac7acaa855d80d8fb3e"), looks := false }, kinds := [], alts := [], laidByText := true, laidKinds := [.data, .widerDeep], laidTests := true, laidLooks := .later }
def StateSidesCardSaid : Prop := Claim7.holds Tryd.pinned (.plain (OpenSpec.ofChange stateSidesSpec)) stateSidesCard

/-- THE TIED CARD OF 'tolllaw27.StateKinds'. -/
def stateKindsCard : Claim7 := { stood := { row := stateKindsRow, standIns := [], harness := (true, "35725214224aa8bc5a059bd9ad3ef15b920d418aeb191ac7acaa855d80d8fb3e"), looks := false }, kinds := [], alts := [], laidByText := true, laidKinds := [.data, .widerDeep], laidTests := true, laidLooks := .later }
def StateKindsCardSaid : Prop := Claim7.holds Tryd.pinned (.plain (OpenSpec.ofChange stateKindsSpec)) stateKindsCard

/-- THE TIED CARD OF 'tolllaw27.StateTells'. -/
def stateTellsCard : Claim7 := { stood := { row := stateTellsRow, standIns := [], harness := (true, "35725214224aa8bc5a059bd9ad3ef15b920d418aeb191ac7acaa855d80d8fb3e"), looks := false }, kinds := [], alts := [], laidByText := true, laidKinds := [.data, .data, .data, .widerDeep], laidTests := true, laidLooks := .later }
def StateTellsCardSaid : Prop := Claim7.holds Tryd.pinned (.plain (OpenSpec.ofChange stateTellsSpec)) stateTellsCard

/-- THE TIED CARD OF 'tolllaw27.StateEnds'. -/
def stateEndsCard : Claim7 := { stood := { row := stateEndsRow, standIns := [], harness := (true, "35725214224aa8bc5a059bd9ad3ef15b920d418aeb191ac7acaa855d80d8fb3e"), looks := false }, kinds := [], alts := [], laidByText := true, laidKinds := [.data, .data, .data, .widerDeep], laidTests := true, laidLooks := .later }
def StateEndsCardSaid : Prop := Claim7.holds Tryd.pinned (.plain (OpenSpec.ofChange stateEndsSpec)) stateEndsCard

/-- THE TIED CARD OF 'tolllaw27.StateKnown'. -/
def stateKnownCard : Claim7 := { stood := { row := stateKnownRow, standIns := [], harness := (true, "35725214224aa8bc5a059bd9ad3ef15b920d418aeb191ac7acaa855d80d8fb3e"), looks := false }, kinds := [], alts := [], laidByText := true, laidKinds := [.data, .data, .data, .widerDeep], laidTests := true, laidLooks := .later }
def StateKnownCardSaid : Prop := Claim7.holds Tryd.pinned (.plain (OpenSpec.ofChange stateKnownSpec)) stateKnownCard

/-- THE SECOND FORM's CARD OF 'tolllaw27.StateRuns'. -/
def stateRunsUptoCard : Claim7 := { stood := { row := stateRunsUptoRow, standIns := [], harness := (true, "35725214224aa8bc5a059bd9ad3ef15b920d418aeb191ac7acaa855d80d8fb3e"), looks := false }, kinds := [], alts := [], laidByText := true, laidKinds := [.data, .widerDeep], laidTests := true, laidLooks := .later }
def StateRunsUptoCardSaid : Prop := Claim7.holds Tryd.pinned (.plain (OpenSpec.upto stateRunsSpec)) stateRunsUptoCard

/-- THE SECOND FORM's CARD OF 'tolllaw27.StateSteps'. -/
def stateStepsUptoCard : Claim7 := { stood := { row := stateStepsUptoRow, standIns := [], harness := (true, "35725214224aa8bc5a059bd9ad3ef15b920d418aeb191ac7acaa855d80d8fb3e"), looks := false }, kinds := [], alts := [], laidByText := true, laidKinds := [.data, .widerDeep], laidTests := true, laidLooks := .later }
def StateStepsUptoCardSaid : Prop := Claim7.holds Tryd.pinned (.plain (OpenSpec.upto stateStepsSpec)) stateStepsUptoCard

/-- THE SECOND FORM's CARD OF 'tolllaw27.StateSides'. -/
def stateSidesUptoCard : Claim7 := { stood := { row := stateSidesUptoRow, standIns := [], harness := (true, "35725214224aa8bc5a059bd9ad3ef15b920d418aeb191ac7acaa855d80d8fb3e"), looks := false }, kinds := [], alts := [], laidByText := true, laidKinds := [.data, .widerDeep], laidTests := true, laidLooks := .later }
def StateSidesUptoCardSaid : Prop := Claim7.holds Tryd.pinned (.plain (OpenSpec.upto stateSidesSpec)) stateSidesUptoCard

/-- THE SECOND FORM's CARD OF 'tolllaw27.StateKinds'. -/
def stateKindsUptoCard : Claim7 := { stood := { row := stateKindsUptoRow, standIns := [], harness := (true, "35725214224aa8bc5a059bd9ad3ef15b920d418aeb191ac7acaa855d80d8fb3e"), looks := false }, kinds := [], alts := [], laidByText := true, laidKinds := [.data, .widerDeep], laidTests := true, laidLooks := .later }
def StateKindsUptoCardSaid : Prop := Claim7.holds Tryd.pinned (.plain (OpenSpec.upto stateKindsSpec)) stateKindsUptoCard

/-- THE SECOND FORM's CARD OF 'tolllaw27.StateTells'. -/
def stateTellsUptoCard : Claim7 := { stood := { row := stateTellsUptoRow, standIns := [], harness := (true, "35725214224aa8bc5a059bd9ad3ef15b920d418aeb191ac7acaa855d80d8fb3e"), looks := false }, kinds := [], alts := [], laidByText := true, laidKinds := [.data, .data, .data, .widerDeep], laidTests := true, laidLooks := .later }
def StateTellsUptoCardSaid : Prop := Claim7.holds Tryd.pinned (.plain (OpenSpec.upto stateTellsSpec)) stateTellsUptoCard

/-- THE SECOND FORM's CARD OF 'tolllaw27.StateEnds'. -/
def stateEndsUptoCard : Claim7 := { stood := { row := stateEndsUptoRow, standIns := [], harness := (true, "35725214224aa8bc5a059bd9ad3ef15b920d418aeb191ac7acaa855d80d8fb3e"), looks := false }, kinds := [], alts := [], laidByText := true, laidKinds := [.data, .data, .data, .widerDeep], laidTests := true, laidLooks := .later }
def StateEndsUptoCardSaid : Prop := Claim7.holds Tryd.pinned (.plain (OpenSpec.upto stateEndsSpec)) stateEndsUptoCard

/-- THE SECOND FORM's CARD OF 'tolllaw27.StateKnown'. -/
def stateKnownUptoCard : Claim7 := { stood := { row := stateKnownUptoRow, standIns := [], harness := (true, "35725214224aa8bc5a059bd9ad3ef15b920d418aeb191ac7acaa855d80d8fb3e"), looks := false }, kinds := [], alts := [], laidByText := true, laidKinds := [.data, .data, .data, .widerDeep], laidTests := true, laidLooks := .later }
def StateKnownUptoCardSaid : Prop := Claim7.holds Tryd.pinned (.plain (OpenSpec.upto stateKnownSpec)) stateKnownUptoCard
end Rows
end Go.Proofs.YtpheeljemkpnaaaDoor
