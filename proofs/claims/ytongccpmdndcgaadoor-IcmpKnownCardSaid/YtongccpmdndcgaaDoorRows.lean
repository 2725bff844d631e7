/-
  NARROWER THAN 'FOR EVERY INPUT', by the rows' own cells (each row's printed sentence says how): IcmpTells: laid · IcmpKnown: laid · IcmpQuotes: laid.
  DERIVED. THE GIVEN ROWS OF THIS SEAT. 3 by the template 'for every input the law returns true; each argument reads behind the call as it read before'; 0 by the template 'total and deterministic' (their statements: YtongccpmdndcgaaDoorTotals.lean).
  GIVEN WITH THE SEED: the statements are not yours to turn. If you find one false, say at which input.
  Laid BY PROGRAM, IN A SANDBOX (cutbox-rows.mjs): the forced cells as the released guide's own fill.sh prints them over the translation 37215e8b5515ac63… (all of the seat's roots in one cut). By AI agents, Wed Nov 11 2026. No macro, syntax, notation, axiom, sorry.
-/
import Derived.Test.YtongccpmdndcgaaDoorChecked
import GoSem.Claim
import GoSem.ClaimJoined
import GoSem.ClaimMapViews
import Derived.JoinedTies
import Derived.KernelRfl
namespace Go.Proofs.YtongccpmdndcgaaDoor
/- THE CELL 'sum', in the pinned program and in every row, IS THE sha256 OF THE DUMP (.gsa) THAT YtongccpmdndcgaaDoorProg.lean LOADS. Nothing in Lean hashes anything: it is a label: what it is worth is what the hold of that sum in a sandbox is worth. -/
noncomputable def Tryd.pinned : Pinned := { name := "ytongccpmdndcgaadoor", sum := "37215e8b5515ac6324f2905b24eb8266618d5901f0f85092e5f2d0980c6725a3", checked := Tryd.checked }
namespace Rows
def none {H : Type} : Left H := { results := [], args := [] }

/- WHAT THE LISTED PACKAGE-LEVEL VARIABLES READ AS WHEN THE CALL BEGINS. Each datum BY PROGRAM (the guide's laid-datum.mjs) off the statement by which the dump's own 'gosem.cut.vars' lays the variable. In a bare row this is a premise. The card (YtongccpmdndcgaaDoorCards.lean) ties it to the program's text. -/
def laid_toll_icmp_kinds {H : Type} : DataW H := .map [(.int .u8 0, .lit (.int .i64 3)), (.int .u8 3, .lit (.int .i64 1)), (.int .u8 4, .lit (.int .i64 1)), (.int .u8 5, .lit (.int .i64 1)), (.int .u8 8, .lit (.int .i64 2)), (.int .u8 11, .lit (.int .i64 1)), (.int .u8 12, .lit (.int .i64 1)), (.int .u8 13, .lit (.int .i64 2)), (.int .u8 14, .lit (.int .i64 3)), (.int .u8 15, .lit (.int .i64 2)), (.int .u8 16, .lit (.int .i64 3)), (.int .u8 17, .lit (.int .i64 2)), (.int .u8 18, .lit (.int .i64 3))]

/-- 'tolllaw08.IcmpTells': WHATEVER THE INPUT: true; the input reads as it did. -/
def icmpTellsSpec : ChangeSpec := { name := "icmpTells", fn := fun _ => fun
  | [d] => { results := [.lit (.bool true)], args := [d] }
  | _ => none }
def icmpTellsRow : OpenClaim := { program := "ytongccpmdndcgaadoor", sum := "37215e8b5515ac6324f2905b24eb8266618d5901f0f85092e5f2d0980c6725a3", func := "toll/tolllaw08.IcmpTells", spec := "icmpTells", unfollowed := true, recurses := true, named := ["toll/icmp.kinds"], apart := false, laid := [("toll/icmp.kinds", laid_toll_icmp_kinds)] }
def IcmpTellsSaid : Prop := icmpTellsRow.holds Tryd.pinned (OpenSpec.ofChange icmpTellsSpec)

/-- ITS FALSE NEIGHBOUR: 'it returns false'. Refute it at one input. -/
def icmpTellsWrong : ChangeSpec := { name := "icmpTells", fn := fun _ => fun
  | [d] => { results := [.lit (.bool false)], args := [d] }
  | _ => none }
def IcmpTellsWrongFalsely : Prop := icmpTellsRow.holds Tryd.pinned (OpenSpec.ofChange icmpTellsWrong)

/-- 'tolllaw08.IcmpKnown': WHATEVER THE INPUT: true; the input reads as it did. -/
def icmpKnownSpec : ChangeSpec := { name := "icmpKnown", fn := fun _ => fun
  | [] => { results := [.lit (.bool true)], args := [] }
  | _ => none }
def icmpKnownRow : OpenClaim := { program := "ytongccpmdndcgaadoor", sum := "37215e8b5515ac6324f2905b24eb8266618d5901f0f85092e5f2d0980c6725a3", func := "toll/tolllaw08.IcmpKnown", spec := "icmpKnown", unfollowed := true, recurses := true, named := ["toll/icmp.kinds"], apart := false, laid := [("toll/icmp.kinds", laid_toll_icmp_kinds)] }
def IcmpKnownSaid : Prop := icmpKnownRow.holds Tryd.pinned (OpenSpec.ofChange icmpKnownSpec)

/-- ITS FALSE NEIGHBOUR: 'it returns false'. Refute it at one input. -/
def icmpKnownWrong : ChangeSpec := { name := "icmpKnown", fn := fun _ => fun
  | [] => { results := [.lit (.bool false)], args := [] }
  | _ => none }
def IcmpKnownWrongFalsely : Prop := icmpKnownRow.holds Tryd.pinned (OpenSpec.ofChange icmpKnownWrong)

/-- 'tolllaw08.IcmpQuotes': WHATEVER THE INPUT: true; the input reads as it did. -/
def icmpQuotesSpec : ChangeSpec := { name := "icmpQuotes", fn := fun _ => fun
  | [d1, d2, d3, d4] => { results := [.lit (.bool true)], args := [d1, d2, d3, d4] }
  | _ => none }
def icmpQuotesRow : OpenClaim := { program := "ytongccpmdndcgaadoor", sum := "37215e8b5515ac6324f2905b24eb8266618d5901f0f85092e5f2d0980c6725a3", func := "toll/tolllaw08.IcmpQuotes", spec := "icmpQuotes", unfollowed := true, recurses := true, named := ["toll/icmp.kinds"], apart := false, laid := [("toll/icmp.kinds", laid_toll_icmp_kinds)] }
def IcmpQuotesSaid : Prop := icmpQuotesRow.holds Tryd.pinned (OpenSpec.ofChange icmpQuotesSpec)

/-- ITS FALSE NEIGHBOUR: 'it returns false'. Refute it at one input. -/
def icmpQuotesWrong : ChangeSpec := { name := "icmpQuotes", fn := fun _ => fun
  | [d1, d2, d3, d4] => { results := [.lit (.bool false)], args := [d1, d2, d3, d4] }
  | _ => none }
def IcmpQuotesWrongFalsely : Prop := icmpQuotesRow.holds Tryd.pinned (OpenSpec.ofChange icmpQuotesWrong)

/- THE SECOND FORM. 'bulk': how many values and letters a reading holds, each counted each time it is reached (what is shared counts as often as it is met; a slice's spare places count too). A statement '..UptoSaid' is the law's where the arguments, and the package variables that the reading takes, are together of bulk at most 1048576: NARROWER than '..Said'. Prove '..Said' where nothing that the law and all that it calls make is longer than what came in: it says more and counts as full. Else prove '..UptoSaid'. A law counts once. -/
mutual
def uptoBulk {H : Type} : DataW H → Nat
  | .lit (.string bytes) => bytes.length + 1
  | .lit _ => 1
  | .nil => 1
  | .ptr d => uptoBulk d + 1
  | .slice elems spare => uptoBulkAll elems + uptoBulkAll spare + 1
  | .agg parts => uptoBulkAll parts + 1
  | .iface _ d => uptoBulk d + 1
  | .map entries => uptoBulkEntries entries + 1
  | .held _ => 1
def uptoBulkAll {H : Type} : List (DataW H) → Nat
  | [] => 0
  | d :: r => uptoBulk d + uptoBulkAll r
def uptoBulkEntries {H : Type} : List (Lit × DataW H) → Nat
  | [] => 0
  | x :: r => uptoBulkEntry x + uptoBulkEntries r
def uptoBulkEntry {H : Type} : Lit × DataW H → Nat
  | (.string bytes, d) => bytes.length + uptoBulk d + 1
  | (_, d) => uptoBulk d + 1
 end
def uptoSmall : (H : Type) → List (DataW H) → Bool := fun _ ds => decide (uptoBulkAll ds ≤ 1048576)
def OpenSpec.upto (s : _root_.Go.ChangeSpec) : _root_.Go.OpenSpec := { _root_.Go.OpenSpec.ofChange s with cond := some uptoSmall }

/-- 'tolllaw08.IcmpTells', WHERE WHAT IT READS IS OF BULK AT MOST 1048576: true; the input reads as it did. -/
def icmpTellsUptoRow : OpenClaim := { program := "ytongccpmdndcgaadoor", sum := "37215e8b5515ac6324f2905b24eb8266618d5901f0f85092e5f2d0980c6725a3", func := "toll/tolllaw08.IcmpTells", spec := "icmpTells", unfollowed := true, recurses := true, named := ["toll/icmp.kinds"], apart := false, laid := [("toll/icmp.kinds", laid_toll_icmp_kinds)], narrowed := true }
def IcmpTellsUptoSaid : Prop := icmpTellsUptoRow.holds Tryd.pinned (OpenSpec.upto icmpTellsSpec)

/-- 'tolllaw08.IcmpKnown', WHERE WHAT IT READS IS OF BULK AT MOST 1048576: true; the input reads as it did. -/
def icmpKnownUptoRow : OpenClaim := { program := "ytongccpmdndcgaadoor", sum := "37215e8b5515ac6324f2905b24eb8266618d5901f0f85092e5f2d0980c6725a3", func := "toll/tolllaw08.IcmpKnown", spec := "icmpKnown", unfollowed := true, recurses := true, named := ["toll/icmp.kinds"], apart := false, laid := [("toll/icmp.kinds", laid_toll_icmp_kinds)], narrowed := true }
def IcmpKnownUptoSaid : Prop := icmpKnownUptoRow.holds Tryd.pinned (OpenSpec.upto icmpKnownSpec)

/-- 'tolllaw08.IcmpQuotes', WHERE WHAT IT READS IS OF BULK AT MOST 1048576: true; the input reads as it did. -/
def icmpQuotesUptoRow : OpenClaim := { program := "ytongccpmdndcgaadoor", sum := "37215e8b5515ac6324f2905b24eb8266618d5901f0f85092e5f2d0980c6725a3", func := "toll/tolllaw08.IcmpQuotes", spec := "icmpQuotes", unfollowed := true, recurses := true, named := ["toll/icmp.kinds"], apart := false, laid := [("toll/icmp.kinds", laid_toll_icmp_kinds)], narrowed := true }
def IcmpQuotesUptoSaid : Prop := icmpQuotesUptoRow.holds Tryd.pinned (OpenSpec.upto icmpQuotesSpec)

end Rows
end Go.Proofs.YtongccpmdndcgaaDoor
