/- How often each pulse is a sum of two beats, walked. -/
import Derived.Test.YtihbgpcmphemmaaSumPlain
import Derived.Test.YtihbgpcmphemmaaRh
import Derived.Test.YtihbgpcmphemmaaApp
import Derived.Test.YtihbgpcmphemmaaGate
namespace Go.Proofs.Ytihbgpcmphemmaa
open Go.RowKit


end Go.Proofs.Ytihbgpcmphemmaa
