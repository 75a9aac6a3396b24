/- The closed facts of the row of LoopsFinds, each in a declaration of its own: the kernel holds less at a time. -/
import Derived.Test.YtngjcmeclhlfeaaChecked
import Derived.Test.YtngjcmeclhlfeaaRows
import Derived.JoinedCond
namespace Go.Proofs.Ytngjcmeclhlfeaa
open Go.ChangeShapes Go.WideShapes
set_option maxRecDepth 100000
set_option maxHeartbeats 0
theorem loopsFinds_joined : joinedFacts Try.pinned.checked.prog 4 Try.f4 (OpenSpec.ofChange Rows.loopsFindsSpec).bare Rows.loopsFindsRow = true := by
  simp only [joinedFacts, Bool.and_eq_true]
  repeat' apply And.intro
  all_goals (as_aux_lemma => kernel_rfl)
end Go.Proofs.Ytngjcmeclhlfeaa
