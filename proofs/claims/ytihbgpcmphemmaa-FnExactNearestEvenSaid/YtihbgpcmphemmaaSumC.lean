/- How often each pulse is a sum of two beats, walked. -/
import Derived.Test.YtihbgpcmphemmaaBas
namespace Go.Proofs.Ytihbgpcmphemmaa
open Go.RowKit


end Go.Proofs.Ytihbgpcmphemmaa
