/- Whether two lists of ints are one. -/
import Derived.Test.YtgfdmjhdfddopaaBas
import Derived.Test.YtgfdmjhdfddopaaRot
namespace Go.Proofs.Ytgfdmjhdfddopaa
open Go.RowKit
set_option maxRecDepth 20000

def eqRh (s : Int) (xs : List Int) (t : Int) (ys : List Int) : Bool := (s == t) && decide (xs = ys)
end Go.Proofs.Ytgfdmjhdfddopaa
