/-
  NARROWER THAN 'FOR EVERY INPUT', by the rows' own cells (each row's printed sentence says how): StateRuns: laid · StateSteps: laid · StateSides: laid · StateKinds: laid · StateTells: laid · StateEnds: laid · StateKnown: laid.
  DERIVED. THE GIVEN ROWS OF THIS SEAT. 7 by the template 'for every input the law returns true; each argument reads behind the call as it read before'; 0 by the template 'total and deterministic' (their statements: YtpheeljemkpnaaaDoorTotals.lean).
  GIVEN WITH THE SEED: the statements are not yours to turn. If you find one false, say at which input.
  Laid BY PROGRAM, IN A SANDBOX (cutbox-rows.mjs): the forced cells as the released guide's own fill.sh prints them over the translation 7caf9c7090ef0e92… (all of the seat's roots in one cut). By AI agents, Wed Nov 11 2026. No macro, syntax, notation, axiom, sorry.
-/
import Derived.Test.YtpheeljemkpnaaaDoorChecked
import GoSem.Claim
import GoSem.ClaimJoined
import GoSem.ClaimMapViews
import Derived.JoinedTies
import Derived.KernelRfl
namespace Go.Proofs.YtpheeljemkpnaaaDoor
/- THE CELL 'sum', in the pinned program and in every row, IS THE sha256 OF THE DUMP (.gsa) THAT YtpheeljemkpnaaaDoorProg.lean LOADS. Nothing in Lean hashes anything: it is a label: what it is worth is what the hold of that sum in a sandbox is worth. -/
noncomputable def Tryd.pinned : Pinned := { name := "ytpheeljemkpnaaadoor", sum := "7caf9c7090ef0e921b01152ced07ea2a1199f48a904b0e95d94b352c7a9feaf5", checked := Tryd.checked }
namespace Rows
def none {H : Type} : Left H := { results := [], args := [] }

/- WHAT THE LISTED PACKAGE-LEVEL VARIABLES READ AS WHEN THE CALL BEGINS. Each datum BY PROGRAM (the guide's laid-datum.mjs) off the statement by which the dump's own 'gosem.cut.vars' lays the variable. In a bare row this is a premise. The card (YtpheeljemkpnaaaDoorCards.lean) ties it to the program's text. -/
def laid_toll_tcpstate_table {H : Type} : DataW H := .agg [.agg [.agg [.lit (.int .i64 (-1)), .lit (.int .i64 1), .lit (.int .i64 (-1)), .lit (.int .i64 (-1)), .lit (.int .i64 (-1)), .lit (.int .i64 (-1))], .agg [.lit (.int .i64 (-1)), .lit (.int .i64 (-1)), .lit (.int .i64 (-1)), .lit (.int .i64 (-1)), .lit (.int .i64 (-1)), .lit (.int .i64 (-1))]], .agg [.agg [.lit (.int .i64 (-1)), .lit (.int .i64 1), .lit (.int .i64 (-1)), .lit (.int .i64 (-1)), .lit (.int .i64 (-1)), .lit (.int .i64 9)], .agg [.lit (.int .i64 (-1)), .lit (.int .i64 2), .lit (.int .i64 3), .lit (.int .i64 (-1)), .lit (.int .i64 (-1)), .lit (.int .i64 9)]], .agg [.agg [.lit (.int .i64 (-1)), .lit (.int .i64 2), .lit (.int .i64 3), .lit (.int .i64 (-1)), .lit (.int .i64 (-1)), .lit (.int .i64 9)], .agg [.lit (.int .i64 (-1)), .lit (.int .i64 2), .lit (.int .i64 3), .lit (.int .i64 (-1)), .lit (.int .i64 (-1)), .lit (.int .i64 9)]], .agg [.agg [.lit (.int .i64 (-1)), .lit (.int .i64 3), .lit (.int .i64 3), .lit (.int .i64 4), .lit (.int .i64 5), .lit (.int .i64 9)], .agg [.lit (.int .i64 (-1)), .lit (.int .i64 (-1)), .lit (.int .i64 3), .lit (.int .i64 3), .lit (.int .i64 6), .lit (.int .i64 9)]], .agg [.agg [.lit (.int .i64 (-1)), .lit (.int .i64 (-1)), .lit (.int .i64 4), .lit (.int .i64 4), .lit (.int .i64 5), .lit (.int .i64 9)], .agg [.lit (.int .i64 (-1)), .lit (.int .i64 (-1)), .lit (.int .i64 4), .lit (.int .i64 4), .lit (.int .i64 6), .lit (.int .i64 9)]], .agg [.agg [.lit (.int .i64 (-1)), .lit (.int .i64 (-1)), .lit (.int .i64 (-1)), .lit (.int .i64 5), .lit (.int .i64 5), .lit (.int .i64 9)], .agg [.lit (.int .i64 (-1)), .lit (.int .i64 (-1)), .lit (.int .i64 (-1)), .lit (.int .i64 5), .lit (.int .i64 7), .lit (.int .i64 9)]], .agg [.agg [.lit (.int .i64 (-1)), .lit (.int .i64 (-1)), .lit (.int .i64 (-1)), .lit (.int .i64 6), .lit (.int .i64 7), .lit (.int .i64 9)], .agg [.lit (.int .i64 (-1)), .lit (.int .i64 (-1)), .lit (.int .i64 (-1)), .lit (.int .i64 6), .lit (.int .i64 6), .lit (.int .i64 9)]], .agg [.agg [.lit (.int .i64 (-1)), .lit (.int .i64 (-1)), .lit (.int .i64 (-1)), .lit (.int .i64 8), .lit (.int .i64 7), .lit (.int .i64 9)], .agg [.lit (.int .i64 (-1)), .lit (.int .i64 (-1)), .lit (.int .i64 (-1)), .lit (.int .i64 8), .lit (.int .i64 7), .lit (.int .i64 9)]], .agg [.agg [.lit (.int .i64 (-1)), .lit (.int .i64 1), .lit (.int .i64 (-1)), .lit (.int .i64 8), .lit (.int .i64 8), .lit (.int .i64 9)], .agg [.lit (.int .i64 (-1)), .lit (.int .i64 (-1)), .lit (.int .i64 (-1)), .lit (.int .i64 8), .lit (.int .i64 8), .lit (.int .i64 9)]], .agg [.agg [.lit (.int .i64 (-1)), .lit (.int .i64 1), .lit (.int .i64 (-1)), .lit (.int .i64 (-1)), .lit (.int .i64 (-1)), .lit (.int .i64 9)], .agg [.lit (.int .i64 (-1)), .lit (.int .i64 (-1)), .lit (.int .i64 (-1)), .lit (.int .i64 (-1)), .lit (.int .i64 (-1)), .lit (.int .i64 9)]]]
def laid_toll_tolllaw27_open {H : Type} : DataW H := .slice [.agg [.lit (.bool false), .lit (.int .u8 2)], .agg [.lit (.bool true), .lit (.int .u8 18)], .agg [.lit (.bool false), .lit (.int .u8 16)]] []
def laid_toll_tcpstate_ticks {H : Type} : DataW H := .agg [.lit (.int .i64 0), .lit (.int .i64 120), .lit (.int .i64 120), .lit (.int .i64 60), .lit (.int .i64 432000), .lit (.int .i64 120), .lit (.int .i64 120), .lit (.int .i64 30), .lit (.int .i64 60), .lit (.int .i64 10)]
def laid_toll_tcpstate_texts {H : Type} : DataW H := .agg [.lit (.string [110, 111, 110, 101]), .lit (.string [115, 101, 110, 116]), .lit (.string [99, 114, 111, 115, 115, 101, 100]), .lit (.string [97, 110, 115, 119, 101, 114, 101, 100]), .lit (.string [111, 112, 101, 110]), .lit (.string [104, 97, 108, 102, 45, 97]), .lit (.string [104, 97, 108, 102, 45, 98]), .lit (.string [104, 97, 108, 118, 101, 115]), .lit (.string [108, 97, 115, 116]), .lit (.string [103, 111, 110, 101])]

/-- 'tolllaw27.StateRuns': WHATEVER THE INPUT: true; the input reads as it did. -/
def stateRunsSpec : ChangeSpec := { name := "stateRuns", fn := fun _ => fun
  | [d] => { results := [.lit (.bool true)], args := [d] }
  | _ => none }
def stateRunsRow : OpenClaim := { program := "ytpheeljemkpnaaadoor", sum := "7caf9c7090ef0e921b01152ced07ea2a1199f48a904b0e95d94b352c7a9feaf5", func := "toll/tolllaw27.StateRuns", spec := "stateRuns", named := ["toll/tcpstate.table", "toll/tolllaw27.open"], apart := false, laid := [("toll/tcpstate.table", laid_toll_tcpstate_table), ("toll/tolllaw27.open", laid_toll_tolllaw27_open)] }
def StateRunsSaid : Prop := stateRunsRow.holds Tryd.pinned (OpenSpec.ofChange stateRunsSpec)

/-- ITS FALSE NEIGHBOUR: 'it returns false'. Refute it at one input. -/
def stateRunsWrong : ChangeSpec := { name := "stateRuns", fn := fun _ => fun
  | [d] => { results := [.lit (.bool false)], args := [d] }
  | _ => none }
def StateRunsWrongFalsely : Prop := stateRunsRow.holds Tryd.pinned (OpenSpec.ofChange stateRunsWrong)

/-- 'tolllaw27.StateSteps': WHATEVER THE INPUT: true; the input reads as it did. -/
def stateStepsSpec : ChangeSpec := { name := "stateSteps", fn := fun _ => fun
  | [d] => { results := [.lit (.bool true)], args := [d] }
  | _ => none }
def stateStepsRow : OpenClaim := { program := "ytpheeljemkpnaaadoor", sum := "7caf9c7090ef0e921b01152ced07ea2a1199f48a904b0e95d94b352c7a9feaf5", func := "toll/tolllaw27.StateSteps", spec := "stateSteps", named := ["toll/tcpstate.table", "toll/tolllaw27.open"], apart := false, laid := [("toll/tcpstate.table", laid_toll_tcpstate_table), ("toll/tolllaw27.open", laid_toll_tolllaw27_open)] }
def StateStepsSaid : Prop := stateStepsRow.holds Tryd.pinned (OpenSpec.ofChange stateStepsSpec)

/-- ITS FALSE NEIGHBOUR: 'it returns false'. Refute it at one input. -/
def stateStepsWrong : ChangeSpec := { name := "stateSteps", fn := fun _ => fun
  | [d] => { results := [.lit (.bool false)], args := [d] }
  | _ => none }
def StateStepsWrongFalsely : Prop := stateStepsRow.holds Tryd.pinned (OpenSpec.ofChange stateStepsWrong)

/-- 'tolllaw27.StateSides': WHATEVER THE INPUT: true; the input reads as it did. -/
def stateSidesSpec : ChangeSpec := { name := "stateSides", fn := fun _ => fun
  | [d] => { results := [.lit (.bool true)], args := [d] }
  | _ => none }
def stateSidesRow : OpenClaim := { program := "ytpheeljemkpnaaadoor", sum := "7caf9c7090ef0e921b01152ced07ea2a1199f48a904b0e95d94b352c7a9feaf5", func := "toll/tolllaw27.StateSides", spec := "stateSides", named := ["toll/tolllaw27.open", "toll/tcpstate.table"], apart := false, laid := [("toll/tcpstate.table", laid_toll_tcpstate_table), ("toll/tolllaw27.open", laid_toll_tolllaw27_open)] }
def StateSidesSaid : Prop := stateSidesRow.holds Tryd.pinned (OpenSpec.ofChange stateSidesSpec)

/-- ITS FALSE NEIGHBOUR: 'it returns false'. Refute it at one input. -/
def stateSidesWrong : ChangeSpec := { name := "stateSides", fn := fun _ => fun
  | [d] => { results := [.lit (.bool false)], args := [d] }
  | _ => none }
def StateSidesWrongFalsely : Prop := stateSidesRow.holds Tryd.pinned (OpenSpec.ofChange stateSidesWrong)

/-- 'tolllaw27.StateKinds': WHATEVER THE INPUT: true; the input reads as it did. -/
def stateKindsSpec : ChangeSpec := { name := "stateKinds", fn := fun _ => fun
  | [d] => { results := [.lit (.bool true)], args := [d] }
  | _ => none }
def stateKindsRow : OpenClaim := { program := "ytpheeljemkpnaaadoor", sum := "7caf9c7090ef0e921b01152ced07ea2a1199f48a904b0e95d94b352c7a9feaf5", func := "toll/tolllaw27.StateKinds", spec := "stateKinds", named := ["toll/tolllaw27.open", "toll/tcpstate.table"], apart := false, laid := [("toll/tcpstate.table", laid_toll_tcpstate_table), ("toll/tolllaw27.open", laid_toll_tolllaw27_open)] }
def StateKindsSaid : Prop := stateKindsRow.holds Tryd.pinned (OpenSpec.ofChange stateKindsSpec)

/-- ITS FALSE NEIGHBOUR: 'it returns false'. Refute it at one input. -/
def stateKindsWrong : ChangeSpec := { name := "stateKinds", fn := fun _ => fun
  | [d] => { results := [.lit (.bool false)], args := [d] }
  | _ => none }
def StateKindsWrongFalsely : Prop := stateKindsRow.holds Tryd.pinned (OpenSpec.ofChange stateKindsWrong)

/-- 'tolllaw27.StateTells': WHATEVER THE INPUT: true; the input reads as it did. -/
def stateTellsSpec : ChangeSpec := { name := "stateTells", fn := fun _ => fun
  | [d1, d2, d3] => { results := [.lit (.bool true)], args := [d1, d2, d3] }
  | _ => none }
def stateTellsRow : OpenClaim := { program := "ytpheeljemkpnaaadoor", sum := "7caf9c7090ef0e921b01152ced07ea2a1199f48a904b0e95d94b352c7a9feaf5", func := "toll/tolllaw27.StateTells", spec := "stateTells", named := ["toll/tcpstate.table", "toll/tcpstate.ticks", "toll/tcpstate.texts", "toll/tolllaw27.open"], apart := false, laid := [("toll/tcpstate.table", laid_toll_tcpstate_table), ("toll/tcpstate.ticks", laid_toll_tcpstate_ticks), ("toll/tcpstate.texts", laid_toll_tcpstate_texts), ("toll/tolllaw27.open", laid_toll_tolllaw27_open)] }
def StateTellsSaid : Prop := stateTellsRow.holds Tryd.pinned (OpenSpec.ofChange stateTellsSpec)

/-- ITS FALSE NEIGHBOUR: 'it returns false'. Refute it at one input. -/
def stateTellsWrong : ChangeSpec := { name := "stateTells", fn := fun _ => fun
  | [d1, d2, d3] => { results := [.lit (.bool false)], args := [d1, d2, d3] }
  | _ => none }
def StateTellsWrongFalsely : Prop := stateTellsRow.holds Tryd.pinned (OpenSpec.ofChange stateTellsWrong)

/-- 'tolllaw27.StateEnds': WHATEVER THE INPUT: true; the input reads as it did. -/
def stateEndsSpec : ChangeSpec := { name := "stateEnds", fn := fun _ => fun
  | [d1, d2, d3] => { results := [.lit (.bool true)], args := [d1, d2, d3] }
  | _ => none }
def stateEndsRow : OpenClaim := { program := "ytpheeljemkpnaaadoor", sum := "7caf9c7090ef0e921b01152ced07ea2a1199f48a904b0e95d94b352c7a9feaf5", func := "toll/tolllaw27.StateEnds", spec := "stateEnds", named := ["toll/tcpstate.table", "toll/tcpstate.ticks", "toll/tcpstate.texts", "toll/tolllaw27.open"], apart := false, laid := [("toll/tcpstate.table", laid_toll_tcpstate_table), ("toll/tcpstate.ticks", laid_toll_tcpstate_ticks), ("toll/tcpstate.texts", laid_toll_tcpstate_texts), ("toll/tolllaw27.open", laid_toll_tolllaw27_open)] }
def StateEndsSaid : Prop := stateEndsRow.holds Tryd.pinned (OpenSpec.ofChange stateEndsSpec)

/-- ITS FALSE NEIGHBOUR: 'it returns false'. Refute it at one input. -/
def stateEndsWrong : ChangeSpec := { name := "stateEnds", fn := fun _ => fun
  | [d1, d2, d3] => { results := [.lit (.bool false)], args := [d1, d2, d3] }
  | _ => none }
def StateEndsWrongFalsely : Prop := stateEndsRow.holds Tryd.pinned (OpenSpec.ofChange stateEndsWrong)

/-- 'tolllaw27.StateKnown': WHATEVER THE INPUT: true; the input reads as it did. -/
def stateKnownSpec : ChangeSpec := { name := "stateKnown", fn := fun _ => fun
  | [] => { results := [.lit (.bool true)], args := [] }
  | _ => none }
def stateKnownRow : OpenClaim := { program := "ytpheeljemkpnaaadoor", sum := "7caf9c7090ef0e921b01152ced07ea2a1199f48a904b0e95d94b352c7a9feaf5", func := "toll/tolllaw27.StateKnown", spec := "stateKnown", named := ["toll/tcpstate.table", "toll/tcpstate.ticks", "toll/tcpstate.texts", "toll/tolllaw27.open"], apart := false, laid := [("toll/tcpstate.table", laid_toll_tcpstate_table), ("toll/tcpstate.ticks", laid_toll_tcpstate_ticks), ("toll/tcpstate.texts", laid_toll_tcpstate_texts), ("toll/tolllaw27.open", laid_toll_tolllaw27_open)] }
def StateKnownSaid : Prop := stateKnownRow.holds Tryd.pinned (OpenSpec.ofChange stateKnownSpec)

/-- ITS FALSE NEIGHBOUR: 'it returns false'. Refute it at one input. -/
def stateKnownWrong : ChangeSpec := { name := "stateKnown", fn := fun _ => fun
  | [] => { results := [.lit (.bool false)], args := [] }
  | _ => none }
def StateKnownWrongFalsely : Prop := stateKnownRow.holds Tryd.pinned (OpenSpec.ofChange stateKnownWrong)

/- THE SECOND FORM. 'bulk': how many values and letters a reading holds, each counted each time it is reached (what is shared counts as often as it is met; a slice's spare places count too). A statement '..UptoSaid' is the law's where the arguments, and the package variables that the reading takes, are together of bulk at most 1048576: NARROWER than '..Said'. Prove '..Said' where nothing that the law and all that it calls make is longer than what came in: it says more and counts as full. Else prove '..UptoSaid'. A law counts once. -/
mutual
def uptoBulk {H : Type} : DataW H → Nat
  | .lit (.string bytes) => bytes.length + 1
  | .lit _ => 1
  | .nil => 1
  | .ptr d => uptoBulk d + 1
  | .slice elems spare => uptoBulkAll elems + uptoBulkAll spare + 1
  | .agg parts => uptoBulkAll parts + 1
  | .iface _ d => uptoBulk d + 1
  | .map entries => uptoBulkEntries entries + 1
  | .held _ => 1
def uptoBulkAll {H : Type} : List (DataW H) → Nat
  | [] => 0
  | d :: r => uptoBulk d + uptoBulkAll r
def uptoBulkEntries {H : Type} : List (Lit × DataW H) → Nat
  | [] => 0
  | x :: r => uptoBulkEntry x + uptoBulkEntries r
def uptoBulkEntry {H : Type} : Lit × DataW H → Nat
  | (.string bytes, d) => bytes.length + uptoBulk d + 1
  | (_, d) => uptoBulk d + 1
 end
def uptoSmall : (H : Type) → List (DataW H) → Bool := fun _ ds => decide (uptoBulkAll ds ≤ 1048576)
def OpenSpec.upto (s : _root_.Go.ChangeSpec) : _root_.Go.OpenSpec := { _root_.Go.OpenSpec.ofChange s with cond := some uptoSmall }

/-- 'tolllaw27.StateRuns', WHERE WHAT IT READS IS OF BULK AT MOST 1048576: true; the input reads as it did. -/
def stateRunsUptoRow : OpenClaim := { program := "ytpheeljemkpnaaadoor", sum := "7caf9c7090ef0e921b01152ced07ea2a1199f48a904b0e95d94b352c7a9feaf5", func := "toll/tolllaw27.StateRuns", spec := "stateRuns", named := ["toll/tcpstate.table", "toll/tolllaw27.open"], apart := false, laid := [("toll/tcpstate.table", laid_toll_tcpstate_table), ("toll/tolllaw27.open", laid_toll_tolllaw27_open)], narrowed := true }
def StateRunsUptoSaid : Prop := stateRunsUptoRow.holds Tryd.pinned (OpenSpec.upto stateRunsSpec)

/-- 'tolllaw27.StateSteps', WHERE WHAT IT READS IS OF BULK AT MOST 1048576: true; the input reads as it did. -/
def stateStepsUptoRow : OpenClaim := { program := "ytpheeljemkpnaaadoor", sum := "7caf9c7090ef0e921b01152ced07ea2a1199f48a904b0e95d94b352c7a9feaf5", func := "toll/tolllaw27.StateSteps", spec := "stateSteps", named := ["toll/tcpstate.table", "toll/tolllaw27.open"], apart := false, laid := [("toll/tcpstate.table", laid_toll_tcpstate_table), ("toll/tolllaw27.open", laid_toll_tolllaw27_open)], narrowed := true }
def StateStepsUptoSaid : Prop := stateStepsUptoRow.holds Tryd.pinned (OpenSpec.upto stateStepsSpec)

/-- 'tolllaw27.StateSides', WHERE WHAT IT READS IS OF BULK AT MOST 1048576: true; the input reads as it did. -/
def stateSidesUptoRow : OpenClaim := { program := "ytpheeljemkpnaaadoor", sum := "7caf9c7090ef0e921b01152ced07ea2a1199f48a904b0e95d94b352c7a9feaf5", func := "toll/tolllaw27.StateSides", spec := "stateSides", named := ["toll/tolllaw27.open", "toll/tcpstate.table"], apart := false, laid := [("toll/tcpstate.table", laid_toll_tcpstate_table), ("toll/tolllaw27.open", laid_toll_tolllaw27_open)], narrowed := true }
def StateSidesUptoSaid : Prop := stateSidesUptoRow.holds Tryd.pinned (OpenSpec.upto stateSidesSpec)

/-- 'tolllaw27.StateKinds', WHERE WHAT IT READS IS OF BULK AT MOST 1048576: true; the input reads as it did. -/
def stateKindsUptoRow : OpenClaim := { program := "ytpheeljemkpnaaadoor", sum := "7caf9c7090ef0e921b01152ced07ea2a1199f48a904b0e95d94b352c7a9feaf5", func := "toll/tolllaw27.StateKinds", spec := "stateKinds", named := ["toll/tolllaw27.open", "toll/tcpstate.table"], apart := false, laid := [("toll/tcpstate.table", laid_toll_tcpstate_table), ("toll/tolllaw27.open", laid_toll_tolllaw27_open)], narrowed := true }
def StateKindsUptoSaid : Prop := stateKindsUptoRow.holds Tryd.pinned (OpenSpec.upto stateKindsSpec)

/-- 'tolllaw27.StateTells', WHERE WHAT IT READS IS OF BULK AT MOST 1048576: true; the input reads as it did. -/
def stateTellsUptoRow : OpenClaim := { program := "ytpheeljemkpnaaadoor", sum := "7caf9c7090ef0e921b01152ced07ea2a1199f48a904b0e95d94b352c7a9feaf5", func := "toll/tolllaw27.StateTells", spec := "stateTells", named := ["toll/tcpstate.table", "toll/tcpstate.ticks", "toll/tcpstate.texts", "toll/tolllaw27.open"], apart := false, laid := [("toll/tcpstate.table", laid_toll_tcpstate_table), ("toll/tcpstate.ticks", laid_toll_tcpstate_ticks), ("toll/tcpstate.texts", laid_toll_tcpstate_texts), ("toll/tolllaw27.open", laid_toll_tolllaw27_open)], narrowed := true }
def StateTellsUptoSaid : Prop := stateTellsUptoRow.holds Tryd.pinned (OpenSpec.upto stateTellsSpec)

/-- 'tolllaw27.StateEnds', WHERE WHAT IT READS IS OF BULK AT MOST 1048576: true; the input reads as it did. -/
def stateEndsUptoRow : OpenClaim := { program := "ytpheeljemkpnaaadoor", sum := "7caf9c7090ef0e921b01152ced07ea2a1199f48a904b0e95d94b352c7a9feaf5", func := "toll/tolllaw27.StateEnds", spec := "stateEnds", named := ["toll/tcpstate.table", "toll/tcpstate.ticks", "toll/tcpstate.texts", "toll/tolllaw27.open"], apart := false, laid := [("toll/tcpstate.table", laid_toll_tcpstate_table), ("toll/tcpstate.ticks", laid_toll_tcpstate_ticks), ("toll/tcpstate.texts", laid_toll_tcpstate_texts), ("toll/tolllaw27.open", laid_toll_tolllaw27_open)], narrowed := true }
def StateEndsUptoSaid : Prop := stateEndsUptoRow.holds Tryd.pinned (OpenSpec.upto stateEndsSpec)

/-- 'tolllaw27.StateKnown', WHERE WHAT IT READS IS OF BULK AT MOST 1048576: true; the input reads as it did. -/
def stateKnownUptoRow : OpenClaim := { program := "ytpheeljemkpnaaadoor", sum := "7caf9c7090ef0e921b01152ced07ea2a1199f48a904b0e95d94b352c7a9feaf5", func := "toll/tolllaw27.StateKnown", spec := "stateKnown", named := ["toll/tcpstate.table", "toll/tcpstate.ticks", "toll/tcpstate.texts", "toll/tolllaw27.open"], apart := false, laid := [("toll/tcpstate.table", laid_toll_tcpstate_table), ("toll/tcpstate.ticks", laid_toll_tcpstate_ticks), ("toll/tcpstate.texts", laid_toll_tcpstate_texts), ("toll/tolllaw27.open", laid_toll_tolllaw27_open)], narrowed := true }
def StateKnownUptoSaid : Prop := stateKnownUptoRow.holds Tryd.pinned (OpenSpec.upto stateKnownSpec)

end Rows
end Go.Proofs.YtpheeljemkpnaaaDoor
