/- Facts on InspectKnown's row that the form of the claim asks for, each reckoned by the kernel. Conditions: none. -/
import Derived.Test.YtongccpmdndcgaaGreatDoorRows
import Derived.Test.YtongccpmdndcgaaGreatDoorCards
import Derived.KernelRfl
import Derived.LaidMore
import Derived.Stop.Joined
namespace Go.Proofs.YtongccpmdndcgaaGreatDoor.inspectKnown
set_option maxRecDepth 100000
set_option maxHeartbeats 4000000 in
theorem joined : joinedFacts Tryz.pinned.checked.prog 7 Tryz.f7 (OpenSpec.ofChange Rows.inspectKnownSpec).bare Rows.inspectKnownRow = true := by
  unfold joinedFacts
  simp only [Bool.and_eq_true]
  repeat' apply And.intro
  all_goals (as_aux_lemma => kernel_rfl)
end Go.Proofs.YtongccpmdndcgaaGreatDoor.inspectKnown
