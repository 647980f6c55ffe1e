/- A drawn region's operation, written out. -/
import Derived.Test.YtlgiijibekobfaaBas
import Derived.Deep.RegionHeld3
namespace Go.Proofs.Ytlgiijibekobfaa
open Go.RowKit

theorem at_list {l : List Oper} {i : Nat} {oi : Oper} (h : l[i]? = some oi) : l.toArray[i]? = some oi := by simpa using h
end Go.Proofs.Ytlgiijibekobfaa
