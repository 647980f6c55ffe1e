/- A drawn region's operation, written out. -/
import Derived.Test.YtpejnhcmelkmeaaBas
import Derived.Deep.RegionHeld3
namespace Go.Proofs.Ytpejnhcmelkmeaa
open Go.RowKit

theorem at_list {l : List Oper} {i : Nat} {oi : Oper} (h : l[i]? = some oi) : l.toArray[i]? = some oi := by simpa using h
end Go.Proofs.Ytpejnhcmelkmeaa
