/- The closed facts of the row of ConstraintVars, each in a declaration of its own: the kernel holds less at a time. -/
import Derived.Test.YtjglpamdliplbaaDoorChecked
import Derived.Test.YtjglpamdliplbaaDoorRows
import Derived.JoinedCond
namespace Go.Proofs.YtjglpamdliplbaaDoor
open Go.ChangeShapes Go.WideShapes
set_option maxRecDepth 100000
set_option maxHeartbeats 0
theorem constraintVars_joined : joinedFacts Tryd.pinned.checked.prog 6 Tryd.f6 (OpenSpec.ofChange Rows.constraintVarsSpec).bare Rows.constraintVarsRow = true := by
  simp only [joinedFacts, Bool.and_eq_true]
  repeat' apply And.intro
  all_goals (as_aux_lemma => kernel_rfl)
end Go.Proofs.YtjglpamdliplbaaDoor
