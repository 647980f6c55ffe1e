/- Whether a list is a polynomial: the reference's test. -/
import Derived.Test.YtgfdmjhdfddopaaPolyOk
namespace Go.Proofs.Ytgfdmjhdfddopaa
open Go.RowKit
set_option maxRecDepth 20000


end Go.Proofs.Ytgfdmjhdfddopaa
