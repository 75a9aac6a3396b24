import Derived.Test.YtplbaolbaniioaaGreatDoorAx
import Derived.Test.YtplbaolbaniioaaGreatDoorAo
import Derived.Test.YtplbaolbaniioaaGreatDoorAs
set_option linter.all false
namespace Go.Proofs.YtplbaolbaniioaaGreatDoor
open Go.RowKit
section
variable {P : Program} {H : Nat → Prop} {ι ι' : Place} {A A' : AHeap} {w w' : World} {e : AEnv} {ec : Env} {C : Ctx} {n : Nat} {K : AKont}
end
end Go.Proofs.YtplbaolbaniioaaGreatDoor
