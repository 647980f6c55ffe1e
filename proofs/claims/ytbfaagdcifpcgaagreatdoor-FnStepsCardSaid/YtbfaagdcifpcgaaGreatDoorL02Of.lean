/- The rhythm of some numbers, and the map of a rhythm: the reference. -/
import Derived.Test.YtbfaagdcifpcgaaGreatDoorRot
import Derived.Test.YtbfaagdcifpcgaaGreatDoorTls
import Derived.Test.YtbfaagdcifpcgaaGreatDoorBas
import Derived.Test.YtbfaagdcifpcgaaGreatDoorHasB
namespace Go.Proofs.YtbfaagdcifpcgaaGreatDoor
open Go.RowKit
set_option maxRecDepth 20000


end Go.Proofs.YtbfaagdcifpcgaaGreatDoor
