/- The closed facts of the row of InterpNone, each in a declaration of its own: the kernel holds less at a time. -/
import Derived.Test.YtpmpiidndgjaaaaGreatChecked
import Derived.Test.YtpmpiidndgjaaaaGreatRows
import Derived.JoinedCond
namespace Go.Proofs.YtpmpiidndgjaaaaGreat
open Go.ChangeShapes Go.WideShapes
set_option maxRecDepth 100000
set_option maxHeartbeats 0
theorem interpNone_joined : joinedFacts Tryz.pinned.checked.prog 3 Tryz.f3 (OpenSpec.ofChange Rows.interpNoneSpec).bare Rows.interpNoneRow = true := by
  simp only [joinedFacts, Bool.and_eq_true]
  repeat' apply And.intro
  all_goals (as_aux_lemma => kernel_rfl)
end Go.Proofs.YtpmpiidndgjaaaaGreat
