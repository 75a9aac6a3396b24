/- The package variables that the contracts lean on, by their blocks, and what they hold. -/
import Derived.Test.YtlfkighdmheniaaGreatDoorVcX
import Derived.Lib.LaidTab
import Derived.Lib.Space
namespace Go.Proofs.YtlfkighdmheniaaGreatDoor
def GB : List (Nat × List Value) := [(0, Lib.asciiSpaceTab.map fun z => Value.int .u8 z)]
end Go.Proofs.YtlfkighdmheniaaGreatDoor
