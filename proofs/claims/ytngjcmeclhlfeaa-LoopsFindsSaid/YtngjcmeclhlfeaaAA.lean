/- Abstract values compared. No program in sight. -/
import Derived.Test.YtngjcmeclhlfeaaAq
set_option linter.unusedSimpArgs false
set_option linter.unusedVariables false
set_option linter.unnecessarySimpa false
namespace Go.Proofs.Ytngjcmeclhlfeaa
open Go.RowKit
end Go.Proofs.Ytngjcmeclhlfeaa
