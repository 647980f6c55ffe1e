/- Whether a rhythm has a beat, in the reference's words. -/
import Derived.Test.YtgfdmjhdfddopaaBas
import Derived.Deep.RegionHeld3
namespace Go.Proofs.Ytgfdmjhdfddopaa
open Go.RowKit
set_option maxRecDepth 20000


end Go.Proofs.Ytgfdmjhdfddopaa
