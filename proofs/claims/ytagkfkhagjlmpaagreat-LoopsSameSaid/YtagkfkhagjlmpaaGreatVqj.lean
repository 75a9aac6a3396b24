import Derived.Test.YtagkfkhagjlmpaaGreatChecked
import Derived.Test.YtagkfkhagjlmpaaGreatRows
import Derived.JoinedCond
namespace Go.Proofs.YtagkfkhagjlmpaaGreat
open Go.ChangeShapes Go.WideShapes
set_option maxRecDepth 100000
set_option maxHeartbeats 0
theorem loopsSame_joined : joinedFacts Tryz.pinned.checked.prog 4 Tryz.f4 (OpenSpec.ofChange Rows.loopsSameSpec).bare Rows.loopsSameRow = true := by
 simp only [joinedFacts, Bool.and_eq_true]
 repeat' apply And.intro
 all_goals (as_aux_lemma => kernel_rfl)
end Go.Proofs.YtagkfkhagjlmpaaGreat
