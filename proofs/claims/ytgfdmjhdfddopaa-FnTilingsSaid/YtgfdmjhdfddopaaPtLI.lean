/- The partners of a rhythm that the program finds. -/
import Derived.Test.YtgfdmjhdfddopaaPtL
import Derived.Test.YtgfdmjhdfddopaaPtPlain
import Derived.Test.YtgfdmjhdfddopaaCms
import Derived.Test.YtgfdmjhdfddopaaTls
import Derived.Test.YtgfdmjhdfddopaaBas
import Derived.Test.YtgfdmjhdfddopaaRts
import Derived.Test.YtgfdmjhdfddopaaRowR
namespace Go.Proofs.Ytgfdmjhdfddopaa
open Go.RowKit
set_option maxRecDepth 20000

def GivesRs (w : World) (n : Int) (L : List (List Int)) (e : Ending) (w' : World) : Prop := ∃ V ws gs, e = .returned V ∧ RowsR w' w.heap.size V (L.map fun _ => n) ws gs L ∧ Below w.heap.size w w'
end Go.Proofs.Ytgfdmjhdfddopaa
