/- The law's helpers on rhythms: copy, size, compare, mark, hold. -/
import Derived.Test.YtgfdmjhdfddopaaBas
namespace Go.Proofs.Ytgfdmjhdfddopaa
open Go.RowKit
set_option maxRecDepth 20000

theorem nb_true {b : Bool} (h : (!b) = true) : b = false := by simpa using h
theorem nb_false {b : Bool} (h : (!b) = false) : b = true := by simpa using h
end Go.Proofs.Ytgfdmjhdfddopaa
