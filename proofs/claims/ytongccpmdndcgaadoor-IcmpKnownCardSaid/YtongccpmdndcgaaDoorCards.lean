/-
  DERIVED. GIVEN WITH THE SEED: THE CARDS: each row of YtongccpmdndcgaaDoorRows.lean that lists a variable, with what it lists TIED to the program's text (the seventh form; the later family's looks); each row that meets fmt, with fmt's text TOLD by the authors' own Lean function (tested against real Go, not proved from fmt's source: count such statements apart). THE CARD IS WHAT COUNTS. Prove the row's statement (the work); the ties are given (YtongccpmdndcgaaDoorTie.lean); close each card by the builder's one call (the guide's Derived/Test/ToyasCard.lean, 'card_holds'). Laid BY PROGRAM, IN A SANDBOX (cutbox-door.mjs). By AI agents, Wed Nov 11 2026. No macro, syntax, notation, axiom, sorry.
-/
import Derived.Test.YtongccpmdndcgaaDoorRows
import GoSem.ClaimSeven
namespace Go.Proofs.YtongccpmdndcgaaDoor
namespace Rows

/-- THE TIED CARD OF 'tolllaw08.IcmpTells'. -/
def icmpTellsCard : Claim7 := { stood := { row := icmpTellsRow, standIns := [], harness := (true, "f785428e8c08e0933729df834517bcef5ae986f56295513c20684805f830ea34"), looks := false }, kinds := [], alts := [], laidByText := true, laidKinds := [.mapped], laidTests := true, laidLooks := .later }
def IcmpTellsCardSaid : Prop := Claim7.holds Tryd.pinned (.plain (OpenSpec.ofChange icmpTellsSpec)) icmpTellsCard

/-- THE TIED CARD OF 'tolllaw08.IcmpKnown'. -/
def icmpKnownCard : Claim7 := { stood := { row := icmpKnownRow, standIns := [], harness := (true, "f785428e8c08e0933729df834517bcef5ae986f56295513c20684805f830ea34"), looks := false }, kinds := [], alts := [], laidByText := true, laidKinds := [.mapped], laidTests := true, laidLooks := .later }
def IcmpKnownCardSaid : Prop := Claim7.holds Tryd.pinned (.plain (OpenSpec.ofChange icmpKnownSpec)) icmpKnownCard

/-- THE TIED CARD OF 'tolllaw08.IcmpQuotes'. -/
def icmpQuotesCard : Claim7 := { stood := { row := icmpQuotesRow, standIns := [], harness := (true, "f785428e8c08e0933729df834517bcef5ae986f56295513c20684805f830ea34"), looks := false }, kinds := [], alts := [], laidByText := true, laidKinds := [.mapped], laidTests := true, laidLooks := .later }
def IcmpQuotesCardSaid : Prop := Claim7.holds Tryd.pinned (.plain (OpenSpec.ofChange icmpQuotesSpec)) icmpQuotesCard

/-- THE SECOND FORM's CARD OF 'tolllaw08.IcmpTells'. -/
def icmpTellsUptoCard : Claim7 := { stood := { row := icmpTellsUptoRow, standIns := [], harness := (true, "f785428e8c08e0933729df834517bcef5ae986f56295513c20684805f830ea34"), looks := false }, kinds := [], alts := [], laidByText := true, laidKinds := [.mapped], laidTests := true, laidLooks := .later }
def IcmpTellsUptoCardSaid : Prop := Claim7.holds Tryd.pinned (.plain (OpenSpec.upto icmpTellsSpec)) icmpTellsUptoCard

/-- THE SECOND FORM's CARD OF 'tolllaw08.IcmpKnown'. -/
def icmpKnownUptoCard : Claim7 := { stood := { row := icmpKnownUptoRow, standIns := [], harness := (true, "f785428e8c08e0933729df834517bcef5ae986f56295513c20684805f830ea34"), looks := false }, kinds := [], alts := [], laidByText := true, laidKinds := [.mapped], laidTests := true, laidLooks := .later }
def IcmpKnownUptoCardSaid : Prop := Claim7.holds Tryd.pinned (.plain (OpenSpec.upto icmpKnownSpec)) icmpKnownUptoCard

/-- THE SECOND FORM's CARD OF 'tolllaw08.IcmpQuotes'. -/
def icmpQuotesUptoCard : Claim7 := { stood := { row := icmpQuotesUptoRow, standIns := [], harness := (true, "f785428e8c08e0933729df834517bcef5ae986f56295513c20684805f830ea34"), looks := false }, kinds := [], alts := [], laidByText := true, laidKinds := [.mapped], laidTests := true, laidLooks := .later }
def IcmpQuotesUptoCardSaid : Prop := Claim7.holds Tryd.pinned (.plain (OpenSpec.upto icmpQuotesSpec)) icmpQuotesUptoCard
end Rows
end Go.Proofs.YtongccpmdndcgaaDoor
