import Derived.Test.YtagkfkhagjlmpaaGreatAx
import Derived.Test.YtagkfkhagjlmpaaGreatAo
import Derived.Test.YtagkfkhagjlmpaaGreatAs
set_option linter.all false
namespace Go.Proofs.YtagkfkhagjlmpaaGreat
open Go.RowKit
section
variable {P : Program} {H : Nat → Prop} {ι ι' : Place} {A A' : AHeap} {w w' : World} {e : AEnv} {ec : Env} {C : Ctx} {n : Nat} {K : AKont}
end
end Go.Proofs.YtagkfkhagjlmpaaGreat
