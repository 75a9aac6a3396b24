import Derived.Test.YtagkfkhagjlmpaaGreatAq
set_option linter.all false
namespace Go.Proofs.YtagkfkhagjlmpaaGreat
open Go.RowKit
end Go.Proofs.YtagkfkhagjlmpaaGreat
