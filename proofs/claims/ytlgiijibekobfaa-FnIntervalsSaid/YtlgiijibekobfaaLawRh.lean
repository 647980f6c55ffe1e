/- The law's helpers on rhythms: copy, size, compare, mark, hold. -/
import Derived.Test.YtlgiijibekobfaaBas
namespace Go.Proofs.Ytlgiijibekobfaa
open Go.RowKit

theorem nb_true {b : Bool} (h : (!b) = true) : b = false := by simpa using h
theorem nb_false {b : Bool} (h : (!b) = false) : b = true := by simpa using h
end Go.Proofs.Ytlgiijibekobfaa
