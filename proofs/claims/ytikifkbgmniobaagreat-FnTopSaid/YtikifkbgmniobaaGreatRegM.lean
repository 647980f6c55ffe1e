/- A drawn region's operation, written out. -/
import Derived.Test.YtikifkbgmniobaaGreatBas
import Derived.Deep.RegionHeld3
namespace Go.Proofs.YtikifkbgmniobaaGreat
open Go.RowKit
set_option maxRecDepth 20000

theorem at_list {l : List Oper} {i : Nat} {oi : Oper} (h : l[i]? = some oi) : l.toArray[i]? = some oi := by simpa using h
end Go.Proofs.YtikifkbgmniobaaGreat
