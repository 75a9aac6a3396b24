/- The closed facts of the row of LoopsSplits, each in a declaration of its own: the kernel holds less at a time. -/
import Derived.Test.YtagkfkhagjlmpaaGreatChecked
import Derived.Test.YtagkfkhagjlmpaaGreatRows
import Derived.JoinedCond
namespace Go.Proofs.YtagkfkhagjlmpaaGreat
open Go.ChangeShapes Go.WideShapes
set_option maxRecDepth 100000
set_option maxHeartbeats 0
theorem loopsSplits_joined : joinedFacts Tryz.pinned.checked.prog 3 Tryz.f3 (OpenSpec.ofChange Rows.loopsSplitsSpec).bare Rows.loopsSplitsRow = true := by
  simp only [joinedFacts, Bool.and_eq_true]
  repeat' apply And.intro
  all_goals (as_aux_lemma => kernel_rfl)
end Go.Proofs.YtagkfkhagjlmpaaGreat
