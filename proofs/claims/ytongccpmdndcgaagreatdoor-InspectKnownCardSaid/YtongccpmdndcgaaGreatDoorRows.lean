/-
  NARROWER THAN 'FOR EVERY INPUT', by the rows' own cells (each row's printed sentence says how): SnoopKnown: laid · SnoopBytes: laid · SnoopRefused: laid · InspectLists: laid · InspectKnown: laid.
  DERIVED. THE GIVEN ROWS OF THIS SEAT. 5 by the template 'for every input the law returns true; each argument reads behind the call as it read before'; 0 by the template 'total and deterministic' (their statements: YtongccpmdndcgaaGreatDoorTotals.lean).
  GIVEN WITH THE SEED: the statements are not yours to turn. If you find one false, say at which input.
  Laid BY PROGRAM, IN A SANDBOX (cutbox-rows.mjs): the forced cells as the released guide's own fill.sh prints them over the translation f4a96ecc499193e5… (all of the seat's roots in one cut). By AI agents, Wed Nov 11 2026. No macro, syntax, notation, axiom, sorry.
-/
import Derived.Test.YtongccpmdndcgaaGreatDoorChecked
import GoSem.Claim
import GoSem.ClaimJoined
import GoSem.ClaimMapViews
import Derived.JoinedTies
import Derived.KernelRfl
namespace Go.Proofs.YtongccpmdndcgaaGreatDoor
/- THE CELL 'sum', in the pinned program and in every row, IS THE sha256 OF THE DUMP (.gsa) THAT YtongccpmdndcgaaGreatDoorProg.lean LOADS. Nothing in Lean hashes anything: it is a label: what it is worth is what the hold of that sum in a sandbox is worth. -/
noncomputable def Tryz.pinned : Pinned := { name := "ytongccpmdndcgaagreatdoor", sum := "f4a96ecc499193e577c1f63834b9e50c08b747374547c2a09f3ad745485ad243", checked := Tryz.checked }
namespace Rows
def none {H : Type} : Left H := { results := [], args := [] }

/- WHAT THE LISTED PACKAGE-LEVEL VARIABLES READ AS WHEN THE CALL BEGINS. Each datum BY PROGRAM (the guide's laid-datum.mjs) off the statement by which the dump's own 'gosem.cut.vars' lays the variable. In a bare row this is a premise. The card (YtongccpmdndcgaaGreatDoorCards.lean) ties it to the program's text. -/
def laid_toll_tag_kinds {H : Type} : DataW H := .agg [.slice [.lit (.int .u16 34984), .lit (.int .u16 33024)] [], .slice [.lit (.int .u16 33024)] []]
def laid_toll_ether_sap {H : Type} : DataW H := .agg [.lit (.int .u8 170), .lit (.int .u8 170), .lit (.int .u8 3)]
def laid_toll_ports_free {H : Type} : DataW H := .agg [.lit (.float .f64 9218868437227405312), .lit (.float .f64 9218868437227405312)]
def laid_toll_arp_ahead {H : Type} : DataW H := .agg [.lit (.int .u8 0), .lit (.int .u8 1), .lit (.int .u8 8), .lit (.int .u8 0), .lit (.int .u8 6), .lit (.int .u8 4)]

/-- 'tolllaw24.SnoopKnown': WHATEVER THE INPUT: true; the input reads as it did. -/
def snoopKnownSpec : ChangeSpec := { name := "snoopKnown", fn := fun _ => fun
  | [] => { results := [.lit (.bool true)], args := [] }
  | _ => none }
def snoopKnownRow : OpenClaim := { program := "ytongccpmdndcgaagreatdoor", sum := "f4a96ecc499193e577c1f63834b9e50c08b747374547c2a09f3ad745485ad243", func := "toll/tolllaw24.SnoopKnown", spec := "snoopKnown", inPlace := ["math.Float64bits", "internal/abi.NoEscape", "math.Float64frombits", "maps.clone"], unfollowed := true, recurses := true, named := ["toll/ports.free", "toll/tag.kinds", "toll/ether.sap"], plainKeys := false, apart := false, laid := [("toll/tag.kinds", laid_toll_tag_kinds), ("toll/ether.sap", laid_toll_ether_sap), ("toll/ports.free", laid_toll_ports_free)] }
def SnoopKnownSaid : Prop := snoopKnownRow.holds Tryz.pinned (OpenSpec.ofChange snoopKnownSpec)

/-- ITS FALSE NEIGHBOUR: 'it returns false'. Refute it at one input. -/
def snoopKnownWrong : ChangeSpec := { name := "snoopKnown", fn := fun _ => fun
  | [] => { results := [.lit (.bool false)], args := [] }
  | _ => none }
def SnoopKnownWrongFalsely : Prop := snoopKnownRow.holds Tryz.pinned (OpenSpec.ofChange snoopKnownWrong)

/-- 'tolllaw24.SnoopBytes': WHATEVER THE INPUT: true; the input reads as it did. -/
def snoopBytesSpec : ChangeSpec := { name := "snoopBytes", fn := fun _ => fun
  | [d1, d2, d3, d4] => { results := [.lit (.bool true)], args := [d1, d2, d3, d4] }
  | _ => none }
def snoopBytesRow : OpenClaim := { program := "ytongccpmdndcgaagreatdoor", sum := "f4a96ecc499193e577c1f63834b9e50c08b747374547c2a09f3ad745485ad243", func := "toll/tolllaw24.SnoopBytes", spec := "snoopBytes", inPlace := ["internal/abi.NoEscape", "math.Float64bits", "math.Float64frombits"], unfollowed := true, recurses := true, named := ["toll/ports.free", "toll/tag.kinds", "toll/ether.sap"], plainKeys := false, apart := false, laid := [("toll/tag.kinds", laid_toll_tag_kinds), ("toll/ether.sap", laid_toll_ether_sap), ("toll/ports.free", laid_toll_ports_free)] }
def SnoopBytesSaid : Prop := snoopBytesRow.holds Tryz.pinned (OpenSpec.ofChange snoopBytesSpec)

/-- ITS FALSE NEIGHBOUR: 'it returns false'. Refute it at one input. -/
def snoopBytesWrong : ChangeSpec := { name := "snoopBytes", fn := fun _ => fun
  | [d1, d2, d3, d4] => { results := [.lit (.bool false)], args := [d1, d2, d3, d4] }
  | _ => none }
def SnoopBytesWrongFalsely : Prop := snoopBytesRow.holds Tryz.pinned (OpenSpec.ofChange snoopBytesWrong)

/-- 'tolllaw24.SnoopRefused': WHATEVER THE INPUT: true; the input reads as it did. -/
def snoopRefusedSpec : ChangeSpec := { name := "snoopRefused", fn := fun _ => fun
  | [d1, d2, d3, d4] => { results := [.lit (.bool true)], args := [d1, d2, d3, d4] }
  | _ => none }
def snoopRefusedRow : OpenClaim := { program := "ytongccpmdndcgaagreatdoor", sum := "f4a96ecc499193e577c1f63834b9e50c08b747374547c2a09f3ad745485ad243", func := "toll/tolllaw24.SnoopRefused", spec := "snoopRefused", inPlace := ["math.Float64bits", "internal/abi.NoEscape", "math.Float64frombits"], unfollowed := true, recurses := true, named := ["toll/ports.free", "toll/tag.kinds", "toll/ether.sap"], plainKeys := false, apart := false, laid := [("toll/tag.kinds", laid_toll_tag_kinds), ("toll/ether.sap", laid_toll_ether_sap), ("toll/ports.free", laid_toll_ports_free)] }
def SnoopRefusedSaid : Prop := snoopRefusedRow.holds Tryz.pinned (OpenSpec.ofChange snoopRefusedSpec)

/-- ITS FALSE NEIGHBOUR: 'it returns false'. Refute it at one input. -/
def snoopRefusedWrong : ChangeSpec := { name := "snoopRefused", fn := fun _ => fun
  | [d1, d2, d3, d4] => { results := [.lit (.bool false)], args := [d1, d2, d3, d4] }
  | _ => none }
def SnoopRefusedWrongFalsely : Prop := snoopRefusedRow.holds Tryz.pinned (OpenSpec.ofChange snoopRefusedWrong)

/-- 'tolllaw25.InspectLists': WHATEVER THE INPUT: true; the input reads as it did. -/
def inspectListsSpec : ChangeSpec := { name := "inspectLists", fn := fun _ => fun
  | [d] => { results := [.lit (.bool true)], args := [d] }
  | _ => none }
def inspectListsRow : OpenClaim := { program := "ytongccpmdndcgaagreatdoor", sum := "f4a96ecc499193e577c1f63834b9e50c08b747374547c2a09f3ad745485ad243", func := "toll/tolllaw25.InspectLists", spec := "inspectLists", inPlace := ["maps.clone", "internal/bytealg.Compare"], unfollowed := true, recurses := true, named := ["toll/ports.free", "toll/arp.ahead"], plainKeys := false, apart := false, laid := [("toll/arp.ahead", laid_toll_arp_ahead), ("toll/ports.free", laid_toll_ports_free)] }
def InspectListsSaid : Prop := inspectListsRow.holds Tryz.pinned (OpenSpec.ofChange inspectListsSpec)

/-- ITS FALSE NEIGHBOUR: 'it returns false'. Refute it at one input. -/
def inspectListsWrong : ChangeSpec := { name := "inspectLists", fn := fun _ => fun
  | [d] => { results := [.lit (.bool false)], args := [d] }
  | _ => none }
def InspectListsWrongFalsely : Prop := inspectListsRow.holds Tryz.pinned (OpenSpec.ofChange inspectListsWrong)

/-- 'tolllaw25.InspectKnown': WHATEVER THE INPUT: true; the input reads as it did. -/
def inspectKnownSpec : ChangeSpec := { name := "inspectKnown", fn := fun _ => fun
  | [] => { results := [.lit (.bool true)], args := [] }
  | _ => none }
def inspectKnownRow : OpenClaim := { program := "ytongccpmdndcgaagreatdoor", sum := "f4a96ecc499193e577c1f63834b9e50c08b747374547c2a09f3ad745485ad243", func := "toll/tolllaw25.InspectKnown", spec := "inspectKnown", inPlace := ["internal/bytealg.Compare", "maps.clone"], unfollowed := true, recurses := true, named := ["toll/ports.free", "toll/arp.ahead"], plainKeys := false, apart := false, laid := [("toll/arp.ahead", laid_toll_arp_ahead), ("toll/ports.free", laid_toll_ports_free)] }
def InspectKnownSaid : Prop := inspectKnownRow.holds Tryz.pinned (OpenSpec.ofChange inspectKnownSpec)

/-- ITS FALSE NEIGHBOUR: 'it returns false'. Refute it at one input. -/
def inspectKnownWrong : ChangeSpec := { name := "inspectKnown", fn := fun _ => fun
  | [] => { results := [.lit (.bool false)], args := [] }
  | _ => none }
def InspectKnownWrongFalsely : Prop := inspectKnownRow.holds Tryz.pinned (OpenSpec.ofChange inspectKnownWrong)

/- THE SECOND FORM. 'bulk': how many values and letters a reading holds, each counted each time it is reached (what is shared counts as often as it is met; a slice's spare places count too). A statement '..UptoSaid' is the law's where the arguments, and the package variables that the reading takes, are together of bulk at most 1048576: NARROWER than '..Said'. Prove '..Said' where nothing that the law and all that it calls make is longer than what came in: it says more and counts as full. Else prove '..UptoSaid'. A law counts once. -/
mutual
def uptoBulk {H : Type} : DataW H → Nat
  | .lit (.string bytes) => bytes.length + 1
  | .lit _ => 1
  | .nil => 1
  | .ptr d => uptoBulk d + 1
  | .slice elems spare => uptoBulkAll elems + uptoBulkAll spare + 1
  | .agg parts => uptoBulkAll parts + 1
  | .iface _ d => uptoBulk d + 1
  | .map entries => uptoBulkEntries entries + 1
  | .held _ => 1
def uptoBulkAll {H : Type} : List (DataW H) → Nat
  | [] => 0
  | d :: r => uptoBulk d + uptoBulkAll r
def uptoBulkEntries {H : Type} : List (Lit × DataW H) → Nat
  | [] => 0
  | x :: r => uptoBulkEntry x + uptoBulkEntries r
def uptoBulkEntry {H : Type} : Lit × DataW H → Nat
  | (.string bytes, d) => bytes.length + uptoBulk d + 1
  | (_, d) => uptoBulk d + 1
 end
def uptoSmall : (H : Type) → List (DataW H) → Bool := fun _ ds => decide (uptoBulkAll ds ≤ 1048576)
def OpenSpec.upto (s : _root_.Go.ChangeSpec) : _root_.Go.OpenSpec := { _root_.Go.OpenSpec.ofChange s with cond := some uptoSmall }

/-- 'tolllaw24.SnoopKnown', WHERE WHAT IT READS IS OF BULK AT MOST 1048576: true; the input reads as it did. -/
def snoopKnownUptoRow : OpenClaim := { program := "ytongccpmdndcgaagreatdoor", sum := "f4a96ecc499193e577c1f63834b9e50c08b747374547c2a09f3ad745485ad243", func := "toll/tolllaw24.SnoopKnown", spec := "snoopKnown", inPlace := ["math.Float64bits", "internal/abi.NoEscape", "math.Float64frombits", "maps.clone"], unfollowed := true, recurses := true, named := ["toll/ports.free", "toll/tag.kinds", "toll/ether.sap"], plainKeys := false, apart := false, laid := [("toll/tag.kinds", laid_toll_tag_kinds), ("toll/ether.sap", laid_toll_ether_sap), ("toll/ports.free", laid_toll_ports_free)], narrowed := true }
def SnoopKnownUptoSaid : Prop := snoopKnownUptoRow.holds Tryz.pinned (OpenSpec.upto snoopKnownSpec)

/-- 'tolllaw24.SnoopBytes', WHERE WHAT IT READS IS OF BULK AT MOST 1048576: true; the input reads as it did. -/
def snoopBytesUptoRow : OpenClaim := { program := "ytongccpmdndcgaagreatdoor", sum := "f4a96ecc499193e577c1f63834b9e50c08b747374547c2a09f3ad745485ad243", func := "toll/tolllaw24.SnoopBytes", spec := "snoopBytes", inPlace := ["internal/abi.NoEscape", "math.Float64bits", "math.Float64frombits"], unfollowed := true, recurses := true, named := ["toll/ports.free", "toll/tag.kinds", "toll/ether.sap"], plainKeys := false, apart := false, laid := [("toll/tag.kinds", laid_toll_tag_kinds), ("toll/ether.sap", laid_toll_ether_sap), ("toll/ports.free", laid_toll_ports_free)], narrowed := true }
def SnoopBytesUptoSaid : Prop := snoopBytesUptoRow.holds Tryz.pinned (OpenSpec.upto snoopBytesSpec)

/-- 'tolllaw24.SnoopRefused', WHERE WHAT IT READS IS OF BULK AT MOST 1048576: true; the input reads as it did. -/
def snoopRefusedUptoRow : OpenClaim := { program := "ytongccpmdndcgaagreatdoor", sum := "f4a96ecc499193e577c1f63834b9e50c08b747374547c2a09f3ad745485ad243", func := "toll/tolllaw24.SnoopRefused", spec := "snoopRefused", inPlace := ["math.Float64bits", "internal/abi.NoEscape", "math.Float64frombits"], unfollowed := true, recurses := true, named := ["toll/ports.free", "toll/tag.kinds", "toll/ether.sap"], plainKeys := false, apart := false, laid := [("toll/tag.kinds", laid_toll_tag_kinds), ("toll/ether.sap", laid_toll_ether_sap), ("toll/ports.free", laid_toll_ports_free)], narrowed := true }
def SnoopRefusedUptoSaid : Prop := snoopRefusedUptoRow.holds Tryz.pinned (OpenSpec.upto snoopRefusedSpec)

/-- 'tolllaw25.InspectLists', WHERE WHAT IT READS IS OF BULK AT MOST 1048576: true; the input reads as it did. -/
def inspectListsUptoRow : OpenClaim := { program := "ytongccpmdndcgaagreatdoor", sum := "f4a96ecc499193e577c1f63834b9e50c08b747374547c2a09f3ad745485ad243", func := "toll/tolllaw25.InspectLists", spec := "inspectLists", inPlace := ["maps.clone", "internal/bytealg.Compare"], unfollowed := true, recurses := true, named := ["toll/ports.free", "toll/arp.ahead"], plainKeys := false, apart := false, laid := [("toll/arp.ahead", laid_toll_arp_ahead), ("toll/ports.free", laid_toll_ports_free)], narrowed := true }
def InspectListsUptoSaid : Prop := inspectListsUptoRow.holds Tryz.pinned (OpenSpec.upto inspectListsSpec)

/-- 'tolllaw25.InspectKnown', WHERE WHAT IT READS IS OF BULK AT MOST 1048576: true; the input reads as it did. -/
def inspectKnownUptoRow : OpenClaim := { program := "ytongccpmdndcgaagreatdoor", sum := "f4a96ecc499193e577c1f63834b9e50c08b747374547c2a09f3ad745485ad243", func := "toll/tolllaw25.InspectKnown", spec := "inspectKnown", inPlace := ["internal/bytealg.Compare", "maps.clone"], unfollowed := true, recurses := true, named := ["toll/ports.free", "toll/arp.ahead"], plainKeys := false, apart := false, laid := [("toll/arp.ahead", laid_toll_arp_ahead), ("toll/ports.free", laid_toll_ports_free)], narrowed := true }
def InspectKnownUptoSaid : Prop := inspectKnownUptoRow.holds Tryz.pinned (OpenSpec.upto inspectKnownSpec)

end Rows
end Go.Proofs.YtongccpmdndcgaaGreatDoor
