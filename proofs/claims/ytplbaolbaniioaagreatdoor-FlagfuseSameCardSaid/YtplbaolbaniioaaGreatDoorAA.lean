import Derived.Test.YtplbaolbaniioaaGreatDoorAq
set_option linter.all false
namespace Go.Proofs.YtplbaolbaniioaaGreatDoor
open Go.RowKit
end Go.Proofs.YtplbaolbaniioaaGreatDoor
