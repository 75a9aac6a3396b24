/- The closed facts of the row of SimplifyStmt, each in a declaration of its own: the kernel holds less at a time. -/
import Derived.Test.YtlidimmfpfockaaGreatDoorChecked
import Derived.Test.YtlidimmfpfockaaGreatDoorRows
import Derived.JoinedCond
namespace Go.Proofs.YtlidimmfpfockaaGreatDoor
open Go.ChangeShapes Go.WideShapes
set_option maxRecDepth 100000
set_option maxHeartbeats 0
theorem simplifyStmt_joined : joinedFacts Tryz.pinned.checked.prog 6 Tryz.f6 (OpenSpec.ofChange Rows.simplifyStmtSpec).bare Rows.simplifyStmtRow = true := by
  simp only [joinedFacts, Bool.and_eq_true]
  repeat' apply And.intro
  all_goals (as_aux_lemma => kernel_rfl)
end Go.Proofs.YtlidimmfpfockaaGreatDoor
