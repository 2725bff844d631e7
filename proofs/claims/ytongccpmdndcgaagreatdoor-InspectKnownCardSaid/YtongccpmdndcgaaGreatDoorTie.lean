/-
  DERIVED. GIVEN WITH THE SEED: THE PROGRAM's TIES (one call each: nine closed facts by the kernel) AND EACH ROW's TIE, after the 31st guide's Derived/Test/Toyas{Tie, Card}.lean. No idea stands in it: it is a product of the set-up. Laid BY PROGRAM, IN A SANDBOX (cutbox-door.mjs). By AI agents, Wed Nov 11 2026. No macro, syntax, notation, axiom, sorry.
-/
import Derived.Test.YtongccpmdndcgaaGreatDoorRows
import Derived.LaidByTextLater
import Derived.SevenTiedAt
import Derived.LaidSub
import Derived.LaidOnce
namespace Go.Proofs.YtongccpmdndcgaaGreatDoor
open Go
set_option maxRecDepth 100000
theorem seatTie1 : Tryz.prog.laidByTextLater [("toll/arp.ahead", Rows.laid_toll_arp_ahead), ("toll/tag.kinds", Rows.laid_toll_tag_kinds), ("toll/ether.sap", Rows.laid_toll_ether_sap), ("toll/ports.free", Rows.laid_toll_ports_free)] [.widerDeep, .widerDeep, .data, .called] true :=
  Program.laidByTextLater_by_one 85 8 7 (by kernel_rfl) (by kernel_rfl) (by kernel_rfl) (by kernel_rfl) (by kernel_rfl) (by kernel_rfl) (fun _ _ => by kernel_rfl)
theorem noOwnUnsafe : Tryz.pinned.checked.prog.headLifts.contains "ownunsafe" = false := by kernel_rfl
theorem tie : Tryz.prog.laidByTextLater [("toll/tag.kinds", Rows.laid_toll_tag_kinds), ("toll/ether.sap", Rows.laid_toll_ether_sap), ("toll/ports.free", Rows.laid_toll_ports_free)] [.widerDeep, .data, .called] true :=
  Program.laidByTextLater.sub seatTie1 ["toll/tag.kinds", "toll/ether.sap", "toll/ports.free"] (by kernel_rfl) (by kernel_rfl)
theorem snoopKnown_row_tie : Rows.snoopKnownRow.laidByTextAt .later Tryz.pinned [.widerDeep, .data, .called] true :=
  OpenClaim.laidByTextAt_later rfl rfl tie noOwnUnsafe
theorem snoopBytes_row_tie : Rows.snoopBytesRow.laidByTextAt .later Tryz.pinned [.widerDeep, .data, .called] true :=
  OpenClaim.laidByTextAt_later rfl rfl tie noOwnUnsafe
theorem snoopRefused_row_tie : Rows.snoopRefusedRow.laidByTextAt .later Tryz.pinned [.widerDeep, .data, .called] true :=
  OpenClaim.laidByTextAt_later rfl rfl tie noOwnUnsafe
theorem tie2 : Tryz.prog.laidByTextLater [("toll/arp.ahead", Rows.laid_toll_arp_ahead), ("toll/ports.free", Rows.laid_toll_ports_free)] [.widerDeep, .called] true :=
  Program.laidByTextLater.sub seatTie1 ["toll/arp.ahead", "toll/ports.free"] (by kernel_rfl) (by kernel_rfl)
theorem inspectLists_row_tie : Rows.inspectListsRow.laidByTextAt .later Tryz.pinned [.widerDeep, .called] true :=
  OpenClaim.laidByTextAt_later rfl rfl tie2 noOwnUnsafe
theorem inspectKnown_row_tie : Rows.inspectKnownRow.laidByTextAt .later Tryz.pinned [.widerDeep, .called] true :=
  OpenClaim.laidByTextAt_later rfl rfl tie2 noOwnUnsafe
theorem snoopKnownUpto_row_tie : Rows.snoopKnownUptoRow.laidByTextAt .later Tryz.pinned [.widerDeep, .data, .called] true :=
  OpenClaim.laidByTextAt_later rfl rfl tie noOwnUnsafe
theorem snoopBytesUpto_row_tie : Rows.snoopBytesUptoRow.laidByTextAt .later Tryz.pinned [.widerDeep, .data, .called] true :=
  OpenClaim.laidByTextAt_later rfl rfl tie noOwnUnsafe
theorem snoopRefusedUpto_row_tie : Rows.snoopRefusedUptoRow.laidByTextAt .later Tryz.pinned [.widerDeep, .data, .called] true :=
  OpenClaim.laidByTextAt_later rfl rfl tie noOwnUnsafe
theorem inspectListsUpto_row_tie : Rows.inspectListsUptoRow.laidByTextAt .later Tryz.pinned [.widerDeep, .called] true :=
  OpenClaim.laidByTextAt_later rfl rfl tie2 noOwnUnsafe
theorem inspectKnownUpto_row_tie : Rows.inspectKnownUptoRow.laidByTextAt .later Tryz.pinned [.widerDeep, .called] true :=
  OpenClaim.laidByTextAt_later rfl rfl tie2 noOwnUnsafe
end Go.Proofs.YtongccpmdndcgaaGreatDoor
