import Derived.Test.YtplbaolbaniioaaGreatDoorChecked
import Derived.Test.YtplbaolbaniioaaGreatDoorRows
import Derived.JoinedCond
namespace Go.Proofs.YtplbaolbaniioaaGreatDoor
open Go.ChangeShapes Go.WideShapes
set_option maxRecDepth 100000
set_option maxHeartbeats 0
theorem flagfuseSame_joined : joinedFacts Tryz.pinned.checked.prog 3 Tryz.f3 (OpenSpec.ofChange Rows.flagfuseSameSpec).bare Rows.flagfuseSameRow = true := by
 simp only [joinedFacts, Bool.and_eq_true]
 repeat' apply And.intro
 all_goals (as_aux_lemma => kernel_rfl)
end Go.Proofs.YtplbaolbaniioaaGreatDoor
