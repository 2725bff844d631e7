/-
  DERIVED. GIVEN WITH THE SEED: THE CARDS: each row of YtongccpmdndcgaaGreatDoorRows.lean that lists a variable, with what it lists TIED to the program's text (the seventh form; the later family's looks); each row that meets fmt, with fmt's text TOLD by the authors' own Lean function (tested against real Go, not proved from fmt's source: count such statements apart). THE CARD IS WHAT COUNTS. Prove the row's statement (the work); the ties are given (YtongccpmdndcgaaGreatDoorTie.lean); close each card by the builder's one call (the guide's Derived/Test/ToyasCard.lean, 'card_holds'). Laid BY PROGRAM, IN A SANDBOX (cutbox-door.mjs). By AI agents, Wed Nov 11 2026. No macro, syntax, notation, axiom, sorry.
-/
import Derived.Test.YtongccpmdndcgaaGreatDoorRows
import GoSem.ClaimSeven
namespace Go.Proofs.YtongccpmdndcgaaGreatDoor
namespace Rows

/-- THE TIED CARD OF 'tolllaw24.SnoopKnown'. -/
def snoopKnownCard : Claim7 := { stood := { row := snoopKnownRow, standIns := [], harness := (true, "38f55f1870d60e330ff1fd209405484b91eaaa6d48384ea3a6e012bd4f6912d7"), looks := true }, kinds := [], alts := [], laidByText := true, laidKinds := [.widerDeep, .data, .called], laidTests := true, laidLooks := .later }
def SnoopKnownCardSaid : Prop := Claim7.holds Tryz.pinned (.plain (OpenSpec.ofChange snoopKnownSpec)) snoopKnownCard

/-- THE TIED CARD OF 'tolllaw24.SnoopBytes'. -/
def snoopBytesCard : Claim7 := { stood := { row := snoopBytesRow, standIns := [], harness := (true, "38f55f1870d60e330ff1fd209405484b91eaaa6d48384ea3a6e012bd4f6912d7"), looks := true }, kinds := [], alts := [], laidByText := true, laidKinds := [.widerDeep, .data, .called], laidTests := true, laidLooks := .later }
def SnoopBytesCardSaid : Prop := Claim7.holds Tryz.pinned (.plain (OpenSpec.ofChange snoopBytesSpec)) snoopBytesCard

/-- THE TIED CARD OF 'tolllaw24.SnoopRefused'. -/
def snoopRefusedCard : Claim7 := { stood := { row := snoopRefusedRow, standIns := [], harness := (true, "38f55f1870d60e330ff1fd209405484b91eaaa6d48384ea3a6e012bd4f6912d7"), looks := true }, kinds := [], alts := [], laidByText := true, laidKinds := [.widerDeep, .data, .called], laidTests := true, laidLooks := .later }
def SnoopRefusedCardSaid : Prop := Claim7.holds Tryz.pinned (.plain (OpenSpec.ofChange snoopRefusedSpec)) snoopRefusedCard

/-- THE TIED CARD OF 'tolllaw25.InspectLists'. -/
def inspectListsCard : Claim7 := { stood := { row := inspectListsRow, standIns := [], harness := (true, "38f55f1870d60e330ff1fd209405484b91eaaa6d48384ea3a6e012bd4f6912d7"), looks := true }, kinds := [], alts := [], laidByText := true, laidKinds := [.widerDeep, .called], laidTests := true, laidLooks := .later }
def InspectListsCardSaid : Prop := Claim7.holds Tryz.pinned (.plain (OpenSpec.ofChange inspectListsSpec)) inspectListsCard

/-- THE TIED CARD OF 'tolllaw25.InspectKnown'. -/
def inspectKnownCard : Claim7 := { stood := { row := inspectKnownRow, standIns := [], harness := (true, "38f55f1870d60e330ff1fd209405484b91eaaa6d48384ea3a6e012bd4f6912d7"), looks := true }, kinds := [], alts := [], laidByText := true, laidKinds := [.widerDeep, .called], laidTests := true, laidLooks := .later }
def InspectKnownCardSaid : Prop := Claim7.holds Tryz.pinned (.plain (OpenSpec.ofChange inspectKnownSpec)) inspectKnownCard

/-- THE SECOND FORM's CARD OF 'tolllaw24.SnoopKnown'. -/
def snoopKnownUptoCard : Claim7 := { stood := { row := snoopKnownUptoRow, standIns := [], harness := (true, "38f55f1870d60e330ff1fd209405484b91eaaa6d48384ea3a6e012bd4f6912d7"), looks := true }, kinds := [], alts := [], laidByText := true, laidKinds := [.widerDeep, .data, .called], laidTests := true, laidLooks := .later }
def SnoopKnownUptoCardSaid : Prop := Claim7.holds Tryz.pinned (.plain (OpenSpec.upto snoopKnownSpec)) snoopKnownUptoCard

/-- THE SECOND FORM's CARD OF 'tolllaw24.SnoopBytes'. -/
def snoopBytesUptoCard : Claim7 := { stood := { row := snoopBytesUptoRow, standIns := [], harness := (true, "38f55f1870d60e330ff1fd209405484b91eaaa6d48384ea3a6e012bd4f6912d7"), looks := true }, kinds := [], alts := [], laidByText := true, laidKinds := [.widerDeep, .data, .called], laidTests := true, laidLooks := .later }
def SnoopBytesUptoCardSaid : Prop := Claim7.holds Tryz.pinned (.plain (OpenSpec.upto snoopBytesSpec)) snoopBytesUptoCard

/-- THE SECOND FORM's CARD OF 'tolllaw24.SnoopRefused'. -/
def snoopRefusedUptoCard : Claim7 := { stood := { row := snoopRefusedUptoRow, standIns := [], harness := (true, "38f55f1870d60e330ff1fd209405484b91eaaa6d48384ea3a6e012bd4f6912d7"), looks := true }, kinds := [], alts := [], laidByText := true, laidKinds := [.widerDeep, .data, .called], laidTests := true, laidLooks := .later }
def SnoopRefusedUptoCardSaid : Prop := Claim7.holds Tryz.pinned (.plain (OpenSpec.upto snoopRefusedSpec)) snoopRefusedUptoCard

/-- THE SECOND FORM's CARD OF 'tolllaw25.InspectLists'. -/
def inspectListsUptoCard : Claim7 := { stood := { row := inspectListsUptoRow, standIns := [], harness := (true, "38f55f1870d60e330ff1fd209405484b91eaaa6d48384ea3a6e012bd4f6912d7"), looks := true }, kinds := [], alts := [], laidByText := true, laidKinds := [.widerDeep, .called], laidTests := true, laidLooks := .later }
def InspectListsUptoCardSaid : Prop := Claim7.holds Tryz.pinned (.plain (OpenSpec.upto inspectListsSpec)) inspectListsUptoCard

/-- THE SECOND FORM's CARD OF 'tolllaw25.InspectKnown'. -/
def inspectKnownUptoCard : Claim7 := { stood := { row := inspectKnownUptoRow, standIns := [], harness := (true, "38f55f1870d60e330ff1fd209405484b91eaaa6d48384ea3a6e012bd4f6912d7"), looks := true }, kinds := [], alts := [], laidByText := true, laidKinds := [.widerDeep, .called], laidTests := true, laidLooks := .later }
def InspectKnownUptoCardSaid : Prop := Claim7.holds Tryz.pinned (.plain (OpenSpec.upto inspectKnownSpec)) inspectKnownUptoCard
end Rows
end Go.Proofs.YtongccpmdndcgaaGreatDoor
