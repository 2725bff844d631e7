/-
  No cell of these rows narrows 'for every input' (looked for: loops, veiled, ifaces, maps, wideKeys, modest, calm, conditions, laid).
  DERIVED. THE GIVEN ROWS OF THIS SEAT. 15 by the template 'for every input the law returns true; each argument reads behind the call as it read before'; 0 by the template 'total and deterministic' (their statements: YtongccpmdndcgaaTotals.lean).
  GIVEN WITH THE SEED: the statements are not yours to turn. If you find one false, say at which input.
  Laid BY PROGRAM, IN A SANDBOX (cutbox-rows.mjs): the forced cells as the released guide's own fill.sh prints them over the translation aec755fae4a60170… (all of the seat's roots in one cut). By AI agents, Wed Nov 11 2026. No macro, syntax, notation, axiom, sorry.
-/
import Derived.Test.YtongccpmdndcgaaChecked
import GoSem.Claim
import GoSem.ClaimJoined
import GoSem.ClaimMapViews
import Derived.JoinedTies
import Derived.KernelRfl
namespace Go.Proofs.Ytongccpmdndcgaa
/- THE CELL 'sum', in the pinned program and in every row, IS THE sha256 OF THE DUMP (.gsa) THAT YtongccpmdndcgaaProg.lean LOADS. Nothing in Lean hashes anything: it is a label: what it is worth is what the hold of that sum in a sandbox is worth. -/
noncomputable def Try.pinned : Pinned := { name := "ytongccpmdndcgaa", sum := "aec755fae4a6017013cf68c601e5344642b144c7aa97bda1dcd96d4995ab87ba", checked := Try.checked }
namespace Rows
def none {H : Type} : Left H := { results := [], args := [] }

/-- 'tolllaw12.AlarmOrder': WHATEVER THE INPUT: true; the input reads as it did. -/
def alarmOrderSpec : ChangeSpec := { name := "alarmOrder", fn := fun _ => fun
  | [d] => { results := [.lit (.bool true)], args := [d] }
  | _ => none }
def alarmOrderRow : OpenClaim := { program := "ytongccpmdndcgaa", sum := "aec755fae4a6017013cf68c601e5344642b144c7aa97bda1dcd96d4995ab87ba", func := "toll/tolllaw12.AlarmOrder", spec := "alarmOrder", unfollowed := true, recurses := true, plainKeys := false, apart := false }
def AlarmOrderSaid : Prop := alarmOrderRow.holds Try.pinned (OpenSpec.ofChange alarmOrderSpec)

/-- ITS FALSE NEIGHBOUR: 'it returns false'. Refute it at one input. -/
def alarmOrderWrong : ChangeSpec := { name := "alarmOrder", fn := fun _ => fun
  | [d] => { results := [.lit (.bool false)], args := [d] }
  | _ => none }
def AlarmOrderWrongFalsely : Prop := alarmOrderRow.holds Try.pinned (OpenSpec.ofChange alarmOrderWrong)

/-- 'tolllaw12.AlarmTwice': WHATEVER THE INPUT: true; the input reads as it did. -/
def alarmTwiceSpec : ChangeSpec := { name := "alarmTwice", fn := fun _ => fun
  | [d1, d2, d3] => { results := [.lit (.bool true)], args := [d1, d2, d3] }
  | _ => none }
def alarmTwiceRow : OpenClaim := { program := "ytongccpmdndcgaa", sum := "aec755fae4a6017013cf68c601e5344642b144c7aa97bda1dcd96d4995ab87ba", func := "toll/tolllaw12.AlarmTwice", spec := "alarmTwice", inPlace := ["maps.clone"], unfollowed := true, recurses := true, plainKeys := false, apart := false }
def AlarmTwiceSaid : Prop := alarmTwiceRow.holds Try.pinned (OpenSpec.ofChange alarmTwiceSpec)

/-- ITS FALSE NEIGHBOUR: 'it returns false'. Refute it at one input. -/
def alarmTwiceWrong : ChangeSpec := { name := "alarmTwice", fn := fun _ => fun
  | [d1, d2, d3] => { results := [.lit (.bool false)], args := [d1, d2, d3] }
  | _ => none }
def AlarmTwiceWrongFalsely : Prop := alarmTwiceRow.holds Try.pinned (OpenSpec.ofChange alarmTwiceWrong)

/-- 'tolllaw12.AlarmTells': WHATEVER THE INPUT: true; the input reads as it did. -/
def alarmTellsSpec : ChangeSpec := { name := "alarmTells", fn := fun _ => fun
  | [d] => { results := [.lit (.bool true)], args := [d] }
  | _ => none }
def alarmTellsRow : OpenClaim := { program := "ytongccpmdndcgaa", sum := "aec755fae4a6017013cf68c601e5344642b144c7aa97bda1dcd96d4995ab87ba", func := "toll/tolllaw12.AlarmTells", spec := "alarmTells", inPlace := ["maps.clone"], unfollowed := true, recurses := true, plainKeys := false, apart := false }
def AlarmTellsSaid : Prop := alarmTellsRow.holds Try.pinned (OpenSpec.ofChange alarmTellsSpec)

/-- ITS FALSE NEIGHBOUR: 'it returns false'. Refute it at one input. -/
def alarmTellsWrong : ChangeSpec := { name := "alarmTells", fn := fun _ => fun
  | [d] => { results := [.lit (.bool false)], args := [d] }
  | _ => none }
def AlarmTellsWrongFalsely : Prop := alarmTellsRow.holds Try.pinned (OpenSpec.ofChange alarmTellsWrong)

/-- 'tolllaw12.AlarmKnown': WHATEVER THE INPUT: true; the input reads as it did. -/
def alarmKnownSpec : ChangeSpec := { name := "alarmKnown", fn := fun _ => fun
  | [] => { results := [.lit (.bool true)], args := [] }
  | _ => none }
def alarmKnownRow : OpenClaim := { program := "ytongccpmdndcgaa", sum := "aec755fae4a6017013cf68c601e5344642b144c7aa97bda1dcd96d4995ab87ba", func := "toll/tolllaw12.AlarmKnown", spec := "alarmKnown", inPlace := ["maps.clone", "internal/abi.NoEscape", "internal/bytealg.MakeNoZero"], unfollowed := true, recurses := true, plainKeys := false, apart := false }
def AlarmKnownSaid : Prop := alarmKnownRow.holds Try.pinned (OpenSpec.ofChange alarmKnownSpec)

/-- ITS FALSE NEIGHBOUR: 'it returns false'. Refute it at one input. -/
def alarmKnownWrong : ChangeSpec := { name := "alarmKnown", fn := fun _ => fun
  | [] => { results := [.lit (.bool false)], args := [] }
  | _ => none }
def AlarmKnownWrongFalsely : Prop := alarmKnownRow.holds Try.pinned (OpenSpec.ofChange alarmKnownWrong)

/-- 'tolllaw13.TableBounds': WHATEVER THE INPUT: true; the input reads as it did. -/
def tableBoundsSpec : ChangeSpec := { name := "tableBounds", fn := fun _ => fun
  | [d1, d2, d3] => { results := [.lit (.bool true)], args := [d1, d2, d3] }
  | _ => none }
def tableBoundsRow : OpenClaim := { program := "ytongccpmdndcgaa", sum := "aec755fae4a6017013cf68c601e5344642b144c7aa97bda1dcd96d4995ab87ba", func := "toll/tolllaw13.TableBounds", spec := "tableBounds", unfollowed := true, recurses := true, plainKeys := false, apart := false }
def TableBoundsSaid : Prop := tableBoundsRow.holds Try.pinned (OpenSpec.ofChange tableBoundsSpec)

/-- ITS FALSE NEIGHBOUR: 'it returns false'. Refute it at one input. -/
def tableBoundsWrong : ChangeSpec := { name := "tableBounds", fn := fun _ => fun
  | [d1, d2, d3] => { results := [.lit (.bool false)], args := [d1, d2, d3] }
  | _ => none }
def TableBoundsWrongFalsely : Prop := tableBoundsRow.holds Try.pinned (OpenSpec.ofChange tableBoundsWrong)

/-- 'tolllaw13.TableDue': WHATEVER THE INPUT: true; the input reads as it did. -/
def tableDueSpec : ChangeSpec := { name := "tableDue", fn := fun _ => fun
  | [d1, d2] => { results := [.lit (.bool true)], args := [d1, d2] }
  | _ => none }
def tableDueRow : OpenClaim := { program := "ytongccpmdndcgaa", sum := "aec755fae4a6017013cf68c601e5344642b144c7aa97bda1dcd96d4995ab87ba", func := "toll/tolllaw13.TableDue", spec := "tableDue", inPlace := ["maps.clone"], unfollowed := true, recurses := true, plainKeys := false, apart := false }
def TableDueSaid : Prop := tableDueRow.holds Try.pinned (OpenSpec.ofChange tableDueSpec)

/-- ITS FALSE NEIGHBOUR: 'it returns false'. Refute it at one input. -/
def tableDueWrong : ChangeSpec := { name := "tableDue", fn := fun _ => fun
  | [d1, d2] => { results := [.lit (.bool false)], args := [d1, d2] }
  | _ => none }
def TableDueWrongFalsely : Prop := tableDueRow.holds Try.pinned (OpenSpec.ofChange tableDueWrong)

/-- 'tolllaw13.TablePlays': WHATEVER THE INPUT: true; the input reads as it did. -/
def tablePlaysSpec : ChangeSpec := { name := "tablePlays", fn := fun _ => fun
  | [d1, d2, d3] => { results := [.lit (.bool true)], args := [d1, d2, d3] }
  | _ => none }
def tablePlaysRow : OpenClaim := { program := "ytongccpmdndcgaa", sum := "aec755fae4a6017013cf68c601e5344642b144c7aa97bda1dcd96d4995ab87ba", func := "toll/tolllaw13.TablePlays", spec := "tablePlays", inPlace := ["maps.clone"], unfollowed := true, recurses := true, plainKeys := false, apart := false }
def TablePlaysSaid : Prop := tablePlaysRow.holds Try.pinned (OpenSpec.ofChange tablePlaysSpec)

/-- ITS FALSE NEIGHBOUR: 'it returns false'. Refute it at one input. -/
def tablePlaysWrong : ChangeSpec := { name := "tablePlays", fn := fun _ => fun
  | [d1, d2, d3] => { results := [.lit (.bool false)], args := [d1, d2, d3] }
  | _ => none }
def TablePlaysWrongFalsely : Prop := tablePlaysRow.holds Try.pinned (OpenSpec.ofChange tablePlaysWrong)

/-- 'tolllaw21.LearnLast': WHATEVER THE INPUT: true; the input reads as it did. -/
def learnLastSpec : ChangeSpec := { name := "learnLast", fn := fun _ => fun
  | [d1, d2] => { results := [.lit (.bool true)], args := [d1, d2] }
  | _ => none }
def learnLastRow : OpenClaim := { program := "ytongccpmdndcgaa", sum := "aec755fae4a6017013cf68c601e5344642b144c7aa97bda1dcd96d4995ab87ba", func := "toll/tolllaw21.LearnLast", spec := "learnLast", unfollowed := true, recurses := true, plainKeys := false, apart := false }
def LearnLastSaid : Prop := learnLastRow.holds Try.pinned (OpenSpec.ofChange learnLastSpec)

/-- ITS FALSE NEIGHBOUR: 'it returns false'. Refute it at one input. -/
def learnLastWrong : ChangeSpec := { name := "learnLast", fn := fun _ => fun
  | [d1, d2] => { results := [.lit (.bool false)], args := [d1, d2] }
  | _ => none }
def LearnLastWrongFalsely : Prop := learnLastRow.holds Try.pinned (OpenSpec.ofChange learnLastWrong)

/-- 'tolllaw21.LearnFull': WHATEVER THE INPUT: true; the input reads as it did. -/
def learnFullSpec : ChangeSpec := { name := "learnFull", fn := fun _ => fun
  | [d1, d2] => { results := [.lit (.bool true)], args := [d1, d2] }
  | _ => none }
def learnFullRow : OpenClaim := { program := "ytongccpmdndcgaa", sum := "aec755fae4a6017013cf68c601e5344642b144c7aa97bda1dcd96d4995ab87ba", func := "toll/tolllaw21.LearnFull", spec := "learnFull", unfollowed := true, recurses := true, plainKeys := false, apart := false }
def LearnFullSaid : Prop := learnFullRow.holds Try.pinned (OpenSpec.ofChange learnFullSpec)

/-- ITS FALSE NEIGHBOUR: 'it returns false'. Refute it at one input. -/
def learnFullWrong : ChangeSpec := { name := "learnFull", fn := fun _ => fun
  | [d1, d2] => { results := [.lit (.bool false)], args := [d1, d2] }
  | _ => none }
def LearnFullWrongFalsely : Prop := learnFullRow.holds Try.pinned (OpenSpec.ofChange learnFullWrong)

/-- 'tolllaw21.LearnFixed': WHATEVER THE INPUT: true; the input reads as it did. -/
def learnFixedSpec : ChangeSpec := { name := "learnFixed", fn := fun _ => fun
  | [d1, d2, d3] => { results := [.lit (.bool true)], args := [d1, d2, d3] }
  | _ => none }
def learnFixedRow : OpenClaim := { program := "ytongccpmdndcgaa", sum := "aec755fae4a6017013cf68c601e5344642b144c7aa97bda1dcd96d4995ab87ba", func := "toll/tolllaw21.LearnFixed", spec := "learnFixed", unfollowed := true, recurses := true, plainKeys := false, apart := false }
def LearnFixedSaid : Prop := learnFixedRow.holds Try.pinned (OpenSpec.ofChange learnFixedSpec)

/-- ITS FALSE NEIGHBOUR: 'it returns false'. Refute it at one input. -/
def learnFixedWrong : ChangeSpec := { name := "learnFixed", fn := fun _ => fun
  | [d1, d2, d3] => { results := [.lit (.bool false)], args := [d1, d2, d3] }
  | _ => none }
def LearnFixedWrongFalsely : Prop := learnFixedRow.holds Try.pinned (OpenSpec.ofChange learnFixedWrong)

/-- 'tolllaw21.LearnKnown': WHATEVER THE INPUT: true; the input reads as it did. -/
def learnKnownSpec : ChangeSpec := { name := "learnKnown", fn := fun _ => fun
  | [] => { results := [.lit (.bool true)], args := [] }
  | _ => none }
def learnKnownRow : OpenClaim := { program := "ytongccpmdndcgaa", sum := "aec755fae4a6017013cf68c601e5344642b144c7aa97bda1dcd96d4995ab87ba", func := "toll/tolllaw21.LearnKnown", spec := "learnKnown", inPlace := ["maps.clone"], unfollowed := true, recurses := true, plainKeys := false, apart := false }
def LearnKnownSaid : Prop := learnKnownRow.holds Try.pinned (OpenSpec.ofChange learnKnownSpec)

/-- ITS FALSE NEIGHBOUR: 'it returns false'. Refute it at one input. -/
def learnKnownWrong : ChangeSpec := { name := "learnKnown", fn := fun _ => fun
  | [] => { results := [.lit (.bool false)], args := [] }
  | _ => none }
def LearnKnownWrongFalsely : Prop := learnKnownRow.holds Try.pinned (OpenSpec.ofChange learnKnownWrong)

/-- 'tolllaw18.ChainOnce': WHATEVER THE INPUT: true; the input reads as it did. -/
def chainOnceSpec : ChangeSpec := { name := "chainOnce", fn := fun _ => fun
  | [d1, d2, d3] => { results := [.lit (.bool true)], args := [d1, d2, d3] }
  | _ => none }
def chainOnceRow : OpenClaim := { program := "ytongccpmdndcgaa", sum := "aec755fae4a6017013cf68c601e5344642b144c7aa97bda1dcd96d4995ab87ba", func := "toll/tolllaw18.ChainOnce", spec := "chainOnce", inPlace := ["slices.overlaps[toll/chain.Rule[int]]"], unfollowed := true, recurses := true, plainKeys := false, apart := false }
def ChainOnceSaid : Prop := chainOnceRow.holds Try.pinned (OpenSpec.ofChange chainOnceSpec)

/-- ITS FALSE NEIGHBOUR: 'it returns false'. Refute it at one input. -/
def chainOnceWrong : ChangeSpec := { name := "chainOnce", fn := fun _ => fun
  | [d1, d2, d3] => { results := [.lit (.bool false)], args := [d1, d2, d3] }
  | _ => none }
def ChainOnceWrongFalsely : Prop := chainOnceRow.holds Try.pinned (OpenSpec.ofChange chainOnceWrong)

/-- 'tolllaw18.ChainRounds': WHATEVER THE INPUT: true; the input reads as it did. -/
def chainRoundsSpec : ChangeSpec := { name := "chainRounds", fn := fun _ => fun
  | [d1, d2] => { results := [.lit (.bool true)], args := [d1, d2] }
  | _ => none }
def chainRoundsRow : OpenClaim := { program := "ytongccpmdndcgaa", sum := "aec755fae4a6017013cf68c601e5344642b144c7aa97bda1dcd96d4995ab87ba", func := "toll/tolllaw18.ChainRounds", spec := "chainRounds", inPlace := ["slices.overlaps[toll/chain.Rule[int]]"], unfollowed := true, recurses := true, plainKeys := false, apart := false }
def ChainRoundsSaid : Prop := chainRoundsRow.holds Try.pinned (OpenSpec.ofChange chainRoundsSpec)

/-- ITS FALSE NEIGHBOUR: 'it returns false'. Refute it at one input. -/
def chainRoundsWrong : ChangeSpec := { name := "chainRounds", fn := fun _ => fun
  | [d1, d2] => { results := [.lit (.bool false)], args := [d1, d2] }
  | _ => none }
def ChainRoundsWrongFalsely : Prop := chainRoundsRow.holds Try.pinned (OpenSpec.ofChange chainRoundsWrong)

/-- 'tolllaw18.ChainPlaces': WHATEVER THE INPUT: true; the input reads as it did. -/
def chainPlacesSpec : ChangeSpec := { name := "chainPlaces", fn := fun _ => fun
  | [d1, d2, d3] => { results := [.lit (.bool true)], args := [d1, d2, d3] }
  | _ => none }
def chainPlacesRow : OpenClaim := { program := "ytongccpmdndcgaa", sum := "aec755fae4a6017013cf68c601e5344642b144c7aa97bda1dcd96d4995ab87ba", func := "toll/tolllaw18.ChainPlaces", spec := "chainPlaces", inPlace := ["slices.overlaps[toll/chain.Rule[int]]", "internal/abi.NoEscape", "internal/bytealg.MakeNoZero"], unfollowed := true, recurses := true, plainKeys := false, apart := false }
def ChainPlacesSaid : Prop := chainPlacesRow.holds Try.pinned (OpenSpec.ofChange chainPlacesSpec)

/-- ITS FALSE NEIGHBOUR: 'it returns false'. Refute it at one input. -/
def chainPlacesWrong : ChangeSpec := { name := "chainPlaces", fn := fun _ => fun
  | [d1, d2, d3] => { results := [.lit (.bool false)], args := [d1, d2, d3] }
  | _ => none }
def ChainPlacesWrongFalsely : Prop := chainPlacesRow.holds Try.pinned (OpenSpec.ofChange chainPlacesWrong)

/-- 'tolllaw18.ChainKnown': WHATEVER THE INPUT: true; the input reads as it did. -/
def chainKnownSpec : ChangeSpec := { name := "chainKnown", fn := fun _ => fun
  | [] => { results := [.lit (.bool true)], args := [] }
  | _ => none }
def chainKnownRow : OpenClaim := { program := "ytongccpmdndcgaa", sum := "aec755fae4a6017013cf68c601e5344642b144c7aa97bda1dcd96d4995ab87ba", func := "toll/tolllaw18.ChainKnown", spec := "chainKnown", inPlace := ["slices.overlaps[toll/chain.Rule[int]]", "internal/abi.NoEscape", "internal/bytealg.MakeNoZero"], unfollowed := true, recurses := true, plainKeys := false, apart := false }
def ChainKnownSaid : Prop := chainKnownRow.holds Try.pinned (OpenSpec.ofChange chainKnownSpec)

/-- ITS FALSE NEIGHBOUR: 'it returns false'. Refute it at one input. -/
def chainKnownWrong : ChangeSpec := { name := "chainKnown", fn := fun _ => fun
  | [] => { results := [.lit (.bool false)], args := [] }
  | _ => none }
def ChainKnownWrongFalsely : Prop := chainKnownRow.holds Try.pinned (OpenSpec.ofChange chainKnownWrong)

/- THE SECOND FORM. 'bulk': how many values and letters a reading holds, each counted each time it is reached (what is shared counts as often as it is met; a slice's spare places count too). A statement '..UptoSaid' is the law's where the arguments, and the package variables that the reading takes, are together of bulk at most 1048576: NARROWER than '..Said'. Prove '..Said' where nothing that the law and all that it calls make is longer than what came in: it says more and counts as full. Else prove '..UptoSaid'. A law counts once. -/
mutual
def uptoBulk {H : Type} : DataW H → Nat
  | .lit (.string bytes) => bytes.length + 1
  | .lit _ => 1
  | .nil => 1
  | .ptr d => uptoBulk d + 1
  | .slice elems spare => uptoBulkAll elems + uptoBulkAll spare + 1
  | .agg parts => uptoBulkAll parts + 1
  | .iface _ d => uptoBulk d + 1
  | .map entries => uptoBulkEntries entries + 1
  | .held _ => 1
def uptoBulkAll {H : Type} : List (DataW H) → Nat
  | [] => 0
  | d :: r => uptoBulk d + uptoBulkAll r
def uptoBulkEntries {H : Type} : List (Lit × DataW H) → Nat
  | [] => 0
  | x :: r => uptoBulkEntry x + uptoBulkEntries r
def uptoBulkEntry {H : Type} : Lit × DataW H → Nat
  | (.string bytes, d) => bytes.length + uptoBulk d + 1
  | (_, d) => uptoBulk d + 1
 end
def uptoSmall : (H : Type) → List (DataW H) → Bool := fun _ ds => decide (uptoBulkAll ds ≤ 1048576)
def OpenSpec.upto (s : _root_.Go.ChangeSpec) : _root_.Go.OpenSpec := { _root_.Go.OpenSpec.ofChange s with cond := some uptoSmall }

/-- 'tolllaw12.AlarmOrder', WHERE WHAT IT READS IS OF BULK AT MOST 1048576: true; the input reads as it did. -/
def alarmOrderUptoRow : OpenClaim := { program := "ytongccpmdndcgaa", sum := "aec755fae4a6017013cf68c601e5344642b144c7aa97bda1dcd96d4995ab87ba", func := "toll/tolllaw12.AlarmOrder", spec := "alarmOrder", unfollowed := true, recurses := true, plainKeys := false, apart := false, narrowed := true }
def AlarmOrderUptoSaid : Prop := alarmOrderUptoRow.holds Try.pinned (OpenSpec.upto alarmOrderSpec)

/-- 'tolllaw12.AlarmTwice', WHERE WHAT IT READS IS OF BULK AT MOST 1048576: true; the input reads as it did. -/
def alarmTwiceUptoRow : OpenClaim := { program := "ytongccpmdndcgaa", sum := "aec755fae4a6017013cf68c601e5344642b144c7aa97bda1dcd96d4995ab87ba", func := "toll/tolllaw12.AlarmTwice", spec := "alarmTwice", inPlace := ["maps.clone"], unfollowed := true, recurses := true, plainKeys := false, apart := false, narrowed := true }
def AlarmTwiceUptoSaid : Prop := alarmTwiceUptoRow.holds Try.pinned (OpenSpec.upto alarmTwiceSpec)

/-- 'tolllaw12.AlarmTells', WHERE WHAT IT READS IS OF BULK AT MOST 1048576: true; the input reads as it did. -/
def alarmTellsUptoRow : OpenClaim := { program := "ytongccpmdndcgaa", sum := "aec755fae4a6017013cf68c601e5344642b144c7aa97bda1dcd96d4995ab87ba", func := "toll/tolllaw12.AlarmTells", spec := "alarmTells", inPlace := ["maps.clone"], unfollowed := true, recurses := true, plainKeys := false, apart := false, narrowed := true }
def AlarmTellsUptoSaid : Prop := alarmTellsUptoRow.holds Try.pinned (OpenSpec.upto alarmTellsSpec)

/-- 'tolllaw12.AlarmKnown', WHERE WHAT IT READS IS OF BULK AT MOST 1048576: true; the input reads as it did. -/
def alarmKnownUptoRow : OpenClaim := { program := "ytongccpmdndcgaa", sum := "aec755fae4a6017013cf68c601e5344642b144c7aa97bda1dcd96d4995ab87ba", func := "toll/tolllaw12.AlarmKnown", spec := "alarmKnown", inPlace := ["maps.clone", "internal/abi.NoEscape", "internal/bytealg.MakeNoZero"], unfollowed := true, recurses := true, plainKeys := false, apart := false, narrowed := true }
def AlarmKnownUptoSaid : Prop := alarmKnownUptoRow.holds Try.pinned (OpenSpec.upto alarmKnownSpec)

/-- 'tolllaw13.TableBounds', WHERE WHAT IT READS IS OF BULK AT MOST 1048576: true; the input reads as it did. -/
def tableBoundsUptoRow : OpenClaim := { program := "ytongccpmdndcgaa", sum := "aec755fae4a6017013cf68c601e5344642b144c7aa97bda1dcd96d4995ab87ba", func := "toll/tolllaw13.TableBounds", spec := "tableBounds", unfollowed := true, recurses := true, plainKeys := false, apart := false, narrowed := true }
def TableBoundsUptoSaid : Prop := tableBoundsUptoRow.holds Try.pinned (OpenSpec.upto tableBoundsSpec)

/-- 'tolllaw13.TableDue', WHERE WHAT IT READS IS OF BULK AT MOST 1048576: true; the input reads as it did. -/
def tableDueUptoRow : OpenClaim := { program := "ytongccpmdndcgaa", sum := "aec755fae4a6017013cf68c601e5344642b144c7aa97bda1dcd96d4995ab87ba", func := "toll/tolllaw13.TableDue", spec := "tableDue", inPlace := ["maps.clone"], unfollowed := true, recurses := true, plainKeys := false, apart := false, narrowed := true }
def TableDueUptoSaid : Prop := tableDueUptoRow.holds Try.pinned (OpenSpec.upto tableDueSpec)

/-- 'tolllaw13.TablePlays', WHERE WHAT IT READS IS OF BULK AT MOST 1048576: true; the input reads as it did. -/
def tablePlaysUptoRow : OpenClaim := { program := "ytongccpmdndcgaa", sum := "aec755fae4a6017013cf68c601e5344642b144c7aa97bda1dcd96d4995ab87ba", func := "toll/tolllaw13.TablePlays", spec := "tablePlays", inPlace := ["maps.clone"], unfollowed := true, recurses := true, plainKeys := false, apart := false, narrowed := true }
def TablePlaysUptoSaid : Prop := tablePlaysUptoRow.holds Try.pinned (OpenSpec.upto tablePlaysSpec)

/-- 'tolllaw21.LearnLast', WHERE WHAT IT READS IS OF BULK AT MOST 1048576: true; the input reads as it did. -/
def learnLastUptoRow : OpenClaim := { program := "ytongccpmdndcgaa", sum := "aec755fae4a6017013cf68c601e5344642b144c7aa97bda1dcd96d4995ab87ba", func := "toll/tolllaw21.LearnLast", spec := "learnLast", unfollowed := true, recurses := true, plainKeys := false, apart := false, narrowed := true }
def LearnLastUptoSaid : Prop := learnLastUptoRow.holds Try.pinned (OpenSpec.upto learnLastSpec)

/-- 'tolllaw21.LearnFull', WHERE WHAT IT READS IS OF BULK AT MOST 1048576: true; the input reads as it did. -/
def learnFullUptoRow : OpenClaim := { program := "ytongccpmdndcgaa", sum := "aec755fae4a6017013cf68c601e5344642b144c7aa97bda1dcd96d4995ab87ba", func := "toll/tolllaw21.LearnFull", spec := "learnFull", unfollowed := true, recurses := true, plainKeys := false, apart := false, narrowed := true }
def LearnFullUptoSaid : Prop := learnFullUptoRow.holds Try.pinned (OpenSpec.upto learnFullSpec)

/-- 'tolllaw21.LearnFixed', WHERE WHAT IT READS IS OF BULK AT MOST 1048576: true; the input reads as it did. -/
def learnFixedUptoRow : OpenClaim := { program := "ytongccpmdndcgaa", sum := "aec755fae4a6017013cf68c601e5344642b144c7aa97bda1dcd96d4995ab87ba", func := "toll/tolllaw21.LearnFixed", spec := "learnFixed", unfollowed := true, recurses := true, plainKeys := false, apart := false, narrowed := true }
def LearnFixedUptoSaid : Prop := learnFixedUptoRow.holds Try.pinned (OpenSpec.upto learnFixedSpec)

/-- 'tolllaw21.LearnKnown', WHERE WHAT IT READS IS OF BULK AT MOST 1048576: true; the input reads as it did. -/
def learnKnownUptoRow : OpenClaim := { program := "ytongccpmdndcgaa", sum := "aec755fae4a6017013cf68c601e5344642b144c7aa97bda1dcd96d4995ab87ba", func := "toll/tolllaw21.LearnKnown", spec := "learnKnown", inPlace := ["maps.clone"], unfollowed := true, recurses := true, plainKeys := false, apart := false, narrowed := true }
def LearnKnownUptoSaid : Prop := learnKnownUptoRow.holds Try.pinned (OpenSpec.upto learnKnownSpec)

/-- 'tolllaw18.ChainOnce', WHERE WHAT IT READS IS OF BULK AT MOST 1048576: true; the input reads as it did. -/
def chainOnceUptoRow : OpenClaim := { program := "ytongccpmdndcgaa", sum := "aec755fae4a6017013cf68c601e5344642b144c7aa97bda1dcd96d4995ab87ba", func := "toll/tolllaw18.ChainOnce", spec := "chainOnce", inPlace := ["slices.overlaps[toll/chain.Rule[int]]"], unfollowed := true, recurses := true, plainKeys := false, apart := false, narrowed := true }
def ChainOnceUptoSaid : Prop := chainOnceUptoRow.holds Try.pinned (OpenSpec.upto chainOnceSpec)

/-- 'tolllaw18.ChainRounds', WHERE WHAT IT READS IS OF BULK AT MOST 1048576: true; the input reads as it did. -/
def chainRoundsUptoRow : OpenClaim := { program := "ytongccpmdndcgaa", sum := "aec755fae4a6017013cf68c601e5344642b144c7aa97bda1dcd96d4995ab87ba", func := "toll/tolllaw18.ChainRounds", spec := "chainRounds", inPlace := ["slices.overlaps[toll/chain.Rule[int]]"], unfollowed := true, recurses := true, plainKeys := false, apart := false, narrowed := true }
def ChainRoundsUptoSaid : Prop := chainRoundsUptoRow.holds Try.pinned (OpenSpec.upto chainRoundsSpec)

/-- 'tolllaw18.ChainPlaces', WHERE WHAT IT READS IS OF BULK AT MOST 1048576: true; the input reads as it did. -/
def chainPlacesUptoRow : OpenClaim := { program := "ytongccpmdndcgaa", sum := "aec755fae4a6017013cf68c601e5344642b144c7aa97bda1dcd96d4995ab87ba", func := "toll/tolllaw18.ChainPlaces", spec := "chainPlaces", inPlace := ["slices.overlaps[toll/chain.Rule[int]]", "internal/abi.NoEscape", "internal/bytealg.MakeNoZero"], unfollowed := true, recurses := true, plainKeys := false, apart := false, narrowed := true }
def ChainPlacesUptoSaid : Prop := chainPlacesUptoRow.holds Try.pinned (OpenSpec.upto chainPlacesSpec)

/-- 'tolllaw18.ChainKnown', WHERE WHAT IT READS IS OF BULK AT MOST 1048576: true; the input reads as it did. -/
def chainKnownUptoRow : OpenClaim := { program := "ytongccpmdndcgaa", sum := "aec755fae4a6017013cf68c601e5344642b144c7aa97bda1dcd96d4995ab87ba", func := "toll/tolllaw18.ChainKnown", spec := "chainKnown", inPlace := ["slices.overlaps[toll/chain.Rule[int]]", "internal/abi.NoEscape", "internal/bytealg.MakeNoZero"], unfollowed := true, recurses := true, plainKeys := false, apart := false, narrowed := true }
def ChainKnownUptoSaid : Prop := chainKnownUptoRow.holds Try.pinned (OpenSpec.upto chainKnownSpec)

end Rows
end Go.Proofs.Ytongccpmdndcgaa
