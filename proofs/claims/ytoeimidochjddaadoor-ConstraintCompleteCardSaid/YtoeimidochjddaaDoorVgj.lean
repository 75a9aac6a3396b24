/- The closed facts of the row of ConstraintComplete, each in a declaration of its own: the kernel holds less at a time. -/
import Derived.Test.YtoeimidochjddaaDoorChecked
import Derived.Test.YtoeimidochjddaaDoorRows
import Derived.JoinedCond
namespace Go.Proofs.YtoeimidochjddaaDoor
open Go.ChangeShapes Go.WideShapes
set_option maxRecDepth 100000
set_option maxHeartbeats 0
theorem constraintComplete_joined : joinedFacts Tryd.pinned.checked.prog 3 Tryd.f3 (OpenSpec.ofChange Rows.constraintCompleteSpec).bare Rows.constraintCompleteRow = true := by
  simp only [joinedFacts, Bool.and_eq_true]
  repeat' apply And.intro
  all_goals (as_aux_lemma => kernel_rfl)
end Go.Proofs.YtoeimidochjddaaDoor
