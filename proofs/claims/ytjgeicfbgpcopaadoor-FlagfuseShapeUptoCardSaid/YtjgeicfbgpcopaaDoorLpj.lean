/- The closed facts of the row of FlagfuseShape, each in a declaration of its own: the kernel holds less at a time. -/
import Derived.Test.YtjgeicfbgpcopaaDoorChecked
import Derived.Test.YtjgeicfbgpcopaaDoorRows
import Derived.JoinedCond
namespace Go.Proofs.YtjgeicfbgpcopaaDoor
open Go.ChangeShapes Go.WideShapes
set_option maxRecDepth 100000
set_option maxHeartbeats 0
theorem flagfuseShapeUpto_joined : joinedFacts Tryd.pinned.checked.prog 3 Tryd.f3 (Rows.OpenSpec.upto Rows.flagfuseShapeSpec).bare Rows.flagfuseShapeUptoRow = true := by
  simp only [joinedFacts, Bool.and_eq_true]
  repeat' apply And.intro
  all_goals (as_aux_lemma => kernel_rfl)
end Go.Proofs.YtjgeicfbgpcopaaDoor
