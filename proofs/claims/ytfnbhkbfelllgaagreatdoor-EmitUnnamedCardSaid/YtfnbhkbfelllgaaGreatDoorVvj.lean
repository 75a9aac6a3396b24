import Derived.Test.YtfnbhkbfelllgaaGreatDoorChecked
import Derived.Test.YtfnbhkbfelllgaaGreatDoorRows
import Derived.JoinedCond
namespace Go.Proofs.YtfnbhkbfelllgaaGreatDoor
open Go.ChangeShapes Go.WideShapes
set_option maxRecDepth 100000
set_option maxHeartbeats 0
theorem emitUnnamed_joined:joinedFacts Tryz.pinned.checked.prog 4 Tryz.f4 (OpenSpec.ofChange Rows.emitUnnamedSpec).bare Rows.emitUnnamedRow=true:=by
 simp only[joinedFacts,Bool.and_eq_true]
 repeat' apply And.intro
 all_goals (as_aux_lemma=>kernel_rfl)
end Go.Proofs.YtfnbhkbfelllgaaGreatDoor
