/- The closed facts of the row of FlagfuseGraphs, each in a declaration of its own: the kernel holds less at a time. -/
import Derived.Test.YtlidimmfpfockaaGreatDoorChecked
import Derived.Test.YtlidimmfpfockaaGreatDoorRows
import Derived.JoinedCond
namespace Go.Proofs.YtlidimmfpfockaaGreatDoor
open Go.ChangeShapes Go.WideShapes
set_option maxRecDepth 100000
set_option maxHeartbeats 0
theorem flagfuseGraphsUpto_joined : joinedFacts Tryz.pinned.checked.prog 10 Tryz.f10 (Rows.OpenSpec.upto Rows.flagfuseGraphsSpec).bare Rows.flagfuseGraphsUptoRow = true := by
  simp only [joinedFacts, Bool.and_eq_true]
  repeat' apply And.intro
  all_goals (as_aux_lemma => kernel_rfl)
end Go.Proofs.YtlidimmfpfockaaGreatDoor
