/- Abstract values compared. No program in sight. -/
import Derived.Test.YtagkfkhagjlmpaaGreatAq
set_option linter.unusedSimpArgs false
set_option linter.unusedVariables false
set_option linter.unnecessarySimpa false
namespace Go.Proofs.YtagkfkhagjlmpaaGreat
open Go.RowKit
end Go.Proofs.YtagkfkhagjlmpaaGreat
