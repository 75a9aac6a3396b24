/- The package variables that the contracts lean on, by their blocks, and what they hold. -/
import Derived.Test.YtlfkighdmheniaaDoorVcX
import Derived.Lib.LaidTab
import Derived.Lib.Space
namespace Go.Proofs.YtlfkighdmheniaaDoor
def GB : List (Nat × List Value) := [(0, Lib.asciiSpaceTab.map fun z => Value.int .u8 z)]
end Go.Proofs.YtlfkighdmheniaaDoor
