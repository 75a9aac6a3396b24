/- The closed facts of the row of EmitExpr, each in a declaration of its own: the kernel holds less at a time. -/
import Derived.Test.YtccjeoghjioamaaGreatDoorChecked
import Derived.Test.YtccjeoghjioamaaGreatDoorRows
import Derived.JoinedCond
namespace Go.Proofs.YtccjeoghjioamaaGreatDoor
open Go.ChangeShapes Go.WideShapes
set_option maxRecDepth 100000
set_option maxHeartbeats 0
theorem emitExpr_joined : joinedFacts Tryz.pinned.checked.prog 3 Tryz.f3 (OpenSpec.ofChange Rows.emitExprSpec).bare Rows.emitExprRow = true := by
  simp only [joinedFacts, Bool.and_eq_true]
  repeat' apply And.intro
  all_goals (as_aux_lemma => kernel_rfl)
end Go.Proofs.YtccjeoghjioamaaGreatDoor
