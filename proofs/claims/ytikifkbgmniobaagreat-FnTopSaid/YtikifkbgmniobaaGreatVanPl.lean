/- The rest of a division by a cyclotomic polynomial is a sum over the beats: plain laws. -/
import Derived.Test.YtikifkbgmniobaaGreatDvs
import Derived.Test.YtikifkbgmniobaaGreatRts
namespace Go.Proofs.YtikifkbgmniobaaGreat
open Go.RowKit
set_option maxRecDepth 20000

/-- the rests of the powers -/
def vanT : List (List (List Int)) := [[], [[1], [1], [1], [1], [1], [1], [1], [1], [1], [1], [1], [1], [1], [1], [1], [1], [1], [1], [1], [1], [1], [1], [1], [1], [1]], [[1], [-1], [1], [-1], [1], [-1], [1], [-1], [1], [-1], [1], [-1], [1], [-1], [1], [-1], [1], [-1], [1], [-1], [1], [-1], [1], [-1], [1]], [[1, 0], [0, 1], [-1, -1], [1, 0], [0, 1], [-1, -1], [1, 0], [0, 1], [-1, -1], [1, 0], [0, 1], [-1, -1], [1, 0], [0, 1], [-1, -1], [1, 0], [0, 1], [-1, -1], [1, 0], [0, 1], [-1, -1], [1, 0], [0, 1], [-1, -1], [1, 0]], [[1, 0], [0, 1], [-1, 0], [0, -1], [1, 0], [0, 1], [-1, 0], [0, -1], [1, 0], [0, 1], [-1, 0], [0, -1], [1, 0], [0, 1], [-1, 0], [0, -1], [1, 0], [0, 1], [-1, 0], [0, -1], [1, 0], [0, 1], [-1, 0], [0, -1], [1, 0]], [[1, 0, 0, 0], [0, 1, 0, 0], [0, 0, 1, 0], [0, 0, 0, 1], [-1, -1, -1, -1], [1, 0, 0, 0], [0, 1, 0, 0], [0, 0, 1, 0], [0, 0, 0, 1], [-1, -1, -1, -1], [1, 0, 0, 0], [0, 1, 0, 0], [0, 0, 1, 0], [0, 0, 0, 1], [-1, -1, -1, -1], [1, 0, 0, 0], [0, 1, 0, 0], [0, 0, 1, 0], [0, 0, 0, 1], [-1, -1, -1, -1], [1, 0, 0, 0], [0, 1, 0, 0], [0, 0, 1, 0], [0, 0, 0, 1], [-1, -1, -1, -1]], [[1, 0], [0, 1], [-1, 1], [-1, 0], [0, -1], [1, -1], [1, 0], [0, 1], [-1, 1], [-1, 0], [0, -1], [1, -1], [1, 0], [0, 1], [-1, 1], [-1, 0], [0, -1], [1, -1], [1, 0], [0, 1], [-1, 1], [-1, 0], [0, -1], [1, -1], [1, 0]], [[1, 0, 0, 0, 0, 0], [0, 1, 0, 0, 0, 0], [0, 0, 1, 0, 0, 0], [0, 0, 0, 1, 0, 0], [0, 0, 0, 0, 1, 0], [0, 0, 0, 0, 0, 1], [-1, -1, -1, -1, -1, -1], [1, 0, 0, 0, 0, 0], [0, 1, 0, 0, 0, 0], [0, 0, 1, 0, 0, 0], [0, 0, 0, 1, 0, 0], [0, 0, 0, 0, 1, 0], [0, 0, 0, 0, 0, 1], [-1, -1, -1, -1, -1, -1], [1, 0, 0, 0, 0, 0], [0, 1, 0, 0, 0, 0], [0, 0, 1, 0, 0, 0], [0, 0, 0, 1, 0, 0], [0, 0, 0, 0, 1, 0], [0, 0, 0, 0, 0, 1], [-1, -1, -1, -1, -1, -1], [1, 0, 0, 0, 0, 0], [0, 1, 0, 0, 0, 0], [0, 0, 1, 0, 0, 0], [0, 0, 0, 1, 0, 0]], [[1, 0, 0, 0], [0, 1, 0, 0], [0, 0, 1, 0], [0, 0, 0, 1], [-1, 0, 0, 0], [0, -1, 0, 0], [0, 0, -1, 0], [0, 0, 0, -1], [1, 0, 0, 0], [0, 1, 0, 0], [0, 0, 1, 0], [0, 0, 0, 1], [-1, 0, 0, 0], [0, -1, 0, 0], [0, 0, -1, 0], [0, 0, 0, -1], [1, 0, 0, 0], [0, 1, 0, 0], [0, 0, 1, 0], [0, 0, 0, 1], [-1, 0, 0, 0], [0, -1, 0, 0], [0, 0, -1, 0], [0, 0, 0, -1], [1, 0, 0, 0]], [[1, 0, 0, 0, 0, 0], [0, 1, 0, 0, 0, 0], [0, 0, 1, 0, 0, 0], [0, 0, 0, 1, 0, 0], [0, 0, 0, 0, 1, 0], [0, 0, 0, 0, 0, 1], [-1, 0, 0, -1, 0, 0], [0, -1, 0, 0, -1, 0], [0, 0, -1, 0, 0, -1], [1, 0, 0, 0, 0, 0], [0, 1, 0, 0, 0, 0], [0, 0, 1, 0, 0, 0], [0, 0, 0, 1, 0, 0], [0, 0, 0, 0, 1, 0], [0, 0, 0, 0, 0, 1], [-1, 0, 0, -1, 0, 0], [0, -1, 0, 0, -1, 0], [0, 0, -1, 0, 0, -1], [1, 0, 0, 0, 0, 0], [0, 1, 0, 0, 0, 0], [0, 0, 1, 0, 0, 0], [0, 0, 0, 1, 0, 0], [0, 0, 0, 0, 1, 0], [0, 0, 0, 0, 0, 1], [-1, 0, 0, -1, 0, 0]], [[1, 0, 0, 0], [0, 1, 0, 0], [0, 0, 1, 0], [0, 0, 0, 1], [-1, 1, -1, 1], [-1, 0, 0, 0], [0, -1, 0, 0], [0, 0, -1, 0], [0, 0, 0, -1], [1, -1, 1, -1], [1, 0, 0, 0], [0, 1, 0, 0], [0, 0, 1, 0], [0, 0, 0, 1], [-1, 1, -1, 1], [-1, 0, 0, 0], [0, -1, 0, 0], [0, 0, -1, 0], [0, 0, 0, -1], [1, -1, 1, -1], [1, 0, 0, 0], [0, 1, 0, 0], [0, 0, 1, 0], [0, 0, 0, 1], [-1, 1, -1, 1]], [[1, 0, 0, 0, 0, 0, 0, 0, 0, 0], [0, 1, 0, 0, 0, 0, 0, 0, 0, 0], [0, 0, 1, 0, 0, 0, 0, 0, 0, 0], [0, 0, 0, 1, 0, 0, 0, 0, 0, 0], [0, 0, 0, 0, 1, 0, 0, 0, 0, 0], [0, 0, 0, 0, 0, 1, 0, 0, 0, 0], [0, 0, 0, 0, 0, 0, 1, 0, 0, 0], [0, 0, 0, 0, 0, 0, 0, 1, 0, 0], [0, 0, 0, 0, 0, 0, 0, 0, 1, 0], [0, 0, 0, 0, 0, 0, 0, 0, 0, 1], [-1, -1, -1, -1, -1, -1, -1, -1, -1, -1], [1, 0, 0, 0, 0, 0, 0, 0, 0, 0], [0, 1, 0, 0, 0, 0, 0, 0, 0, 0], [0, 0, 1, 0, 0, 0, 0, 0, 0, 0], [0, 0, 0, 1, 0, 0, 0, 0, 0, 0], [0, 0, 0, 0, 1, 0, 0, 0, 0, 0], [0, 0, 0, 0, 0, 1, 0, 0, 0, 0], [0, 0, 0, 0, 0, 0, 1, 0, 0, 0], [0, 0, 0, 0, 0, 0, 0, 1, 0, 0], [0, 0, 0, 0, 0, 0, 0, 0, 1, 0], [0, 0, 0, 0, 0, 0, 0, 0, 0, 1], [-1, -1, -1, -1, -1, -1, -1, -1, -1, -1], [1, 0, 0, 0, 0, 0, 0, 0, 0, 0], [0, 1, 0, 0, 0, 0, 0, 0, 0, 0], [0, 0, 1, 0, 0, 0, 0, 0, 0, 0]], [[1, 0, 0, 0], [0, 1, 0, 0], [0, 0, 1, 0], [0, 0, 0, 1], [-1, 0, 1, 0], [0, -1, 0, 1], [-1, 0, 0, 0], [0, -1, 0, 0], [0, 0, -1, 0], [0, 0, 0, -1], [1, 0, -1, 0], [0, 1, 0, -1], [1, 0, 0, 0], [0, 1, 0, 0], [0, 0, 1, 0], [0, 0, 0, 1], [-1, 0, 1, 0], [0, -1, 0, 1], [-1, 0, 0, 0], [0, -1, 0, 0], [0, 0, -1, 0], [0, 0, 0, -1], [1, 0, -1, 0], [0, 1, 0, -1], [1, 0, 0, 0]], [[1, 0, 0, 0, 0, 0, 0, 0, 0, 0, 0, 0], [0, 1, 0, 0, 0, 0, 0, 0, 0, 0, 0, 0], [0, 0, 1, 0, 0, 0, 0, 0, 0, 0, 0, 0], [0, 0, 0, 1, 0, 0, 0, 0, 0, 0, 0, 0], [0, 0, 0, 0, 1, 0, 0, 0, 0, 0, 0, 0], [0, 0, 0, 0, 0, 1, 0, 0, 0, 0, 0, 0], [0, 0, 0, 0, 0, 0, 1, 0, 0, 0, 0, 0], [0, 0, 0, 0, 0, 0, 0, 1, 0, 0, 0, 0], [0, 0, 0, 0, 0, 0, 0, 0, 1, 0, 0, 0], [0, 0, 0, 0, 0, 0, 0, 0, 0, 1, 0, 0], [0, 0, 0, 0, 0, 0, 0, 0, 0, 0, 1, 0], [0, 0, 0, 0, 0, 0, 0, 0, 0, 0, 0, 1], [-1, -1, -1, -1, -1, -1, -1, -1, -1, -1, -1, -1], [1, 0, 0, 0, 0, 0, 0, 0, 0, 0, 0, 0], [0, 1, 0, 0, 0, 0, 0, 0, 0, 0, 0, 0], [0, 0, 1, 0, 0, 0, 0, 0, 0, 0, 0, 0], [0, 0, 0, 1, 0, 0, 0, 0, 0, 0, 0, 0], [0, 0, 0, 0, 1, 0, 0, 0, 0, 0, 0, 0], [0, 0, 0, 0, 0, 1, 0, 0, 0, 0, 0, 0], [0, 0, 0, 0, 0, 0, 1, 0, 0, 0, 0, 0], [0, 0, 0, 0, 0, 0, 0, 1, 0, 0, 0, 0], [0, 0, 0, 0, 0, 0, 0, 0, 1, 0, 0, 0], [0, 0, 0, 0, 0, 0, 0, 0, 0, 1, 0, 0], [0, 0, 0, 0, 0, 0, 0, 0, 0, 0, 1, 0], [0, 0, 0, 0, 0, 0, 0, 0, 0, 0, 0, 1]], [[1, 0, 0, 0, 0, 0], [0, 1, 0, 0, 0, 0], [0, 0, 1, 0, 0, 0], [0, 0, 0, 1, 0, 0], [0, 0, 0, 0, 1, 0], [0, 0, 0, 0, 0, 1], [-1, 1, -1, 1, -1, 1], [-1, 0, 0, 0, 0, 0], [0, -1, 0, 0, 0, 0], [0, 0, -1, 0, 0, 0], [0, 0, 0, -1, 0, 0], [0, 0, 0, 0, -1, 0], [0, 0, 0, 0, 0, -1], [1, -1, 1, -1, 1, -1], [1, 0, 0, 0, 0, 0], [0, 1, 0, 0, 0, 0], [0, 0, 1, 0, 0, 0], [0, 0, 0, 1, 0, 0], [0, 0, 0, 0, 1, 0], [0, 0, 0, 0, 0, 1], [-1, 1, -1, 1, -1, 1], [-1, 0, 0, 0, 0, 0], [0, -1, 0, 0, 0, 0], [0, 0, -1, 0, 0, 0], [0, 0, 0, -1, 0, 0]], [[1, 0, 0, 0, 0, 0, 0, 0], [0, 1, 0, 0, 0, 0, 0, 0], [0, 0, 1, 0, 0, 0, 0, 0], [0, 0, 0, 1, 0, 0, 0, 0], [0, 0, 0, 0, 1, 0, 0, 0], [0, 0, 0, 0, 0, 1, 0, 0], [0, 0, 0, 0, 0, 0, 1, 0], [0, 0, 0, 0, 0, 0, 0, 1], [-1, 1, 0, -1, 1, -1, 0, 1], [-1, 0, 1, -1, 0, 0, -1, 1], [-1, 0, 0, 0, 0, -1, 0, 0], [0, -1, 0, 0, 0, 0, -1, 0], [0, 0, -1, 0, 0, 0, 0, -1], [1, -1, 0, 0, -1, 1, 0, -1], [1, 0, -1, 1, -1, 0, 1, -1], [1, 0, 0, 0, 0, 0, 0, 0], [0, 1, 0, 0, 0, 0, 0, 0], [0, 0, 1, 0, 0, 0, 0, 0], [0, 0, 0, 1, 0, 0, 0, 0], [0, 0, 0, 0, 1, 0, 0, 0], [0, 0, 0, 0, 0, 1, 0, 0], [0, 0, 0, 0, 0, 0, 1, 0], [0, 0, 0, 0, 0, 0, 0, 1], [-1, 1, 0, -1, 1, -1, 0, 1], [-1, 0, 1, -1, 0, 0, -1, 1]], [[1, 0, 0, 0, 0, 0, 0, 0], [0, 1, 0, 0, 0, 0, 0, 0], [0, 0, 1, 0, 0, 0, 0, 0], [0, 0, 0, 1, 0, 0, 0, 0], [0, 0, 0, 0, 1, 0, 0, 0], [0, 0, 0, 0, 0, 1, 0, 0], [0, 0, 0, 0, 0, 0, 1, 0], [0, 0, 0, 0, 0, 0, 0, 1], [-1, 0, 0, 0, 0, 0, 0, 0], [0, -1, 0, 0, 0, 0, 0, 0], [0, 0, -1, 0, 0, 0, 0, 0], [0, 0, 0, -1, 0, 0, 0, 0], [0, 0, 0, 0, -1, 0, 0, 0], [0, 0, 0, 0, 0, -1, 0, 0], [0, 0, 0, 0, 0, 0, -1, 0], [0, 0, 0, 0, 0, 0, 0, -1], [1, 0, 0, 0, 0, 0, 0, 0], [0, 1, 0, 0, 0, 0, 0, 0], [0, 0, 1, 0, 0, 0, 0, 0], [0, 0, 0, 1, 0, 0, 0, 0], [0, 0, 0, 0, 1, 0, 0, 0], [0, 0, 0, 0, 0, 1, 0, 0], [0, 0, 0, 0, 0, 0, 1, 0], [0, 0, 0, 0, 0, 0, 0, 1], [-1, 0, 0, 0, 0, 0, 0, 0]], [[1, 0, 0, 0, 0, 0, 0, 0, 0, 0, 0, 0, 0, 0, 0, 0], [0, 1, 0, 0, 0, 0, 0, 0, 0, 0, 0, 0, 0, 0, 0, 0], [0, 0, 1, 0, 0, 0, 0, 0, 0, 0, 0, 0, 0, 0, 0, 0], [0, 0, 0, 1, 0, 0, 0, 0, 0, 0, 0, 0, 0, 0, 0, 0], [0, 0, 0, 0, 1, 0, 0, 0, 0, 0, 0, 0, 0, 0, 0, 0], [0, 0, 0, 0, 0, 1, 0, 0, 0, 0, 0, 0, 0, 0, 0, 0], [0, 0, 0, 0, 0, 0, 1, 0, 0, 0, 0, 0, 0, 0, 0, 0], [0, 0, 0, 0, 0, 0, 0, 1, 0, 0, 0, 0, 0, 0, 0, 0], [0, 0, 0, 0, 0, 0, 0, 0, 1, 0, 0, 0, 0, 0, 0, 0], [0, 0, 0, 0, 0, 0, 0, 0, 0, 1, 0, 0, 0, 0, 0, 0], [0, 0, 0, 0, 0, 0, 0, 0, 0, 0, 1, 0, 0, 0, 0, 0], [0, 0, 0, 0, 0, 0, 0, 0, 0, 0, 0, 1, 0, 0, 0, 0], [0, 0, 0, 0, 0, 0, 0, 0, 0, 0, 0, 0, 1, 0, 0, 0], [0, 0, 0, 0, 0, 0, 0, 0, 0, 0, 0, 0, 0, 1, 0, 0], [0, 0, 0, 0, 0, 0, 0, 0, 0, 0, 0, 0, 0, 0, 1, 0], [0, 0, 0, 0, 0, 0, 0, 0, 0, 0, 0, 0, 0, 0, 0, 1], [-1, -1, -1, -1, -1, -1, -1, -1, -1, -1, -1, -1, -1, -1, -1, -1], [1, 0, 0, 0, 0, 0, 0, 0, 0, 0, 0, 0, 0, 0, 0, 0], [0, 1, 0, 0, 0, 0, 0, 0, 0, 0, 0, 0, 0, 0, 0, 0], [0, 0, 1, 0, 0, 0, 0, 0, 0, 0, 0, 0, 0, 0, 0, 0], [0, 0, 0, 1, 0, 0, 0, 0, 0, 0, 0, 0, 0, 0, 0, 0], [0, 0, 0, 0, 1, 0, 0, 0, 0, 0, 0, 0, 0, 0, 0, 0], [0, 0, 0, 0, 0, 1, 0, 0, 0, 0, 0, 0, 0, 0, 0, 0], [0, 0, 0, 0, 0, 0, 1, 0, 0, 0, 0, 0, 0, 0, 0, 0], [0, 0, 0, 0, 0, 0, 0, 1, 0, 0, 0, 0, 0, 0, 0, 0]], [[1, 0, 0, 0, 0, 0], [0, 1, 0, 0, 0, 0], [0, 0, 1, 0, 0, 0], [0, 0, 0, 1, 0, 0], [0, 0, 0, 0, 1, 0], [0, 0, 0, 0, 0, 1], [-1, 0, 0, 1, 0, 0], [0, -1, 0, 0, 1, 0], [0, 0, -1, 0, 0, 1], [-1, 0, 0, 0, 0, 0], [0, -1, 0, 0, 0, 0], [0, 0, -1, 0, 0, 0], [0, 0, 0, -1, 0, 0], [0, 0, 0, 0, -1, 0], [0, 0, 0, 0, 0, -1], [1, 0, 0, -1, 0, 0], [0, 1, 0, 0, -1, 0], [0, 0, 1, 0, 0, -1], [1, 0, 0, 0, 0, 0], [0, 1, 0, 0, 0, 0], [0, 0, 1, 0, 0, 0], [0, 0, 0, 1, 0, 0], [0, 0, 0, 0, 1, 0], [0, 0, 0, 0, 0, 1], [-1, 0, 0, 1, 0, 0]], [[1, 0, 0, 0, 0, 0, 0, 0, 0, 0, 0, 0, 0, 0, 0, 0, 0, 0], [0, 1, 0, 0, 0, 0, 0, 0, 0, 0, 0, 0, 0, 0, 0, 0, 0, 0], [0, 0, 1, 0, 0, 0, 0, 0, 0, 0, 0, 0, 0, 0, 0, 0, 0, 0], [0, 0, 0, 1, 0, 0, 0, 0, 0, 0, 0, 0, 0, 0, 0, 0, 0, 0], [0, 0, 0, 0, 1, 0, 0, 0, 0, 0, 0, 0, 0, 0, 0, 0, 0, 0], [0, 0, 0, 0, 0, 1, 0, 0, 0, 0, 0, 0, 0, 0, 0, 0, 0, 0], [0, 0, 0, 0, 0, 0, 1, 0, 0, 0, 0, 0, 0, 0, 0, 0, 0, 0], [0, 0, 0, 0, 0, 0, 0, 1, 0, 0, 0, 0, 0, 0, 0, 0, 0, 0], [0, 0, 0, 0, 0, 0, 0, 0, 1, 0, 0, 0, 0, 0, 0, 0, 0, 0], [0, 0, 0, 0, 0, 0, 0, 0, 0, 1, 0, 0, 0, 0, 0, 0, 0, 0], [0, 0, 0, 0, 0, 0, 0, 0, 0, 0, 1, 0, 0, 0, 0, 0, 0, 0], [0, 0, 0, 0, 0, 0, 0, 0, 0, 0, 0, 1, 0, 0, 0, 0, 0, 0], [0, 0, 0, 0, 0, 0, 0, 0, 0, 0, 0, 0, 1, 0, 0, 0, 0, 0], [0, 0, 0, 0, 0, 0, 0, 0, 0, 0, 0, 0, 0, 1, 0, 0, 0, 0], [0, 0, 0, 0, 0, 0, 0, 0, 0, 0, 0, 0, 0, 0, 1, 0, 0, 0], [0, 0, 0, 0, 0, 0, 0, 0, 0, 0, 0, 0, 0, 0, 0, 1, 0, 0], [0, 0, 0, 0, 0, 0, 0, 0, 0, 0, 0, 0, 0, 0, 0, 0, 1, 0], [0, 0, 0, 0, 0, 0, 0, 0, 0, 0, 0, 0, 0, 0, 0, 0, 0, 1], [-1, -1, -1, -1, -1, -1, -1, -1, -1, -1, -1, -1, -1, -1, -1, -1, -1, -1], [1, 0, 0, 0, 0, 0, 0, 0, 0, 0, 0, 0, 0, 0, 0, 0, 0, 0], [0, 1, 0, 0, 0, 0, 0, 0, 0, 0, 0, 0, 0, 0, 0, 0, 0, 0], [0, 0, 1, 0, 0, 0, 0, 0, 0, 0, 0, 0, 0, 0, 0, 0, 0, 0], [0, 0, 0, 1, 0, 0, 0, 0, 0, 0, 0, 0, 0, 0, 0, 0, 0, 0], [0, 0, 0, 0, 1, 0, 0, 0, 0, 0, 0, 0, 0, 0, 0, 0, 0, 0], [0, 0, 0, 0, 0, 1, 0, 0, 0, 0, 0, 0, 0, 0, 0, 0, 0, 0]], [[1, 0, 0, 0, 0, 0, 0, 0], [0, 1, 0, 0, 0, 0, 0, 0], [0, 0, 1, 0, 0, 0, 0, 0], [0, 0, 0, 1, 0, 0, 0, 0], [0, 0, 0, 0, 1, 0, 0, 0], [0, 0, 0, 0, 0, 1, 0, 0], [0, 0, 0, 0, 0, 0, 1, 0], [0, 0, 0, 0, 0, 0, 0, 1], [-1, 0, 1, 0, -1, 0, 1, 0], [0, -1, 0, 1, 0, -1, 0, 1], [-1, 0, 0, 0, 0, 0, 0, 0], [0, -1, 0, 0, 0, 0, 0, 0], [0, 0, -1, 0, 0, 0, 0, 0], [0, 0, 0, -1, 0, 0, 0, 0], [0, 0, 0, 0, -1, 0, 0, 0], [0, 0, 0, 0, 0, -1, 0, 0], [0, 0, 0, 0, 0, 0, -1, 0], [0, 0, 0, 0, 0, 0, 0, -1], [1, 0, -1, 0, 1, 0, -1, 0], [0, 1, 0, -1, 0, 1, 0, -1], [1, 0, 0, 0, 0, 0, 0, 0], [0, 1, 0, 0, 0, 0, 0, 0], [0, 0, 1, 0, 0, 0, 0, 0], [0, 0, 0, 1, 0, 0, 0, 0], [0, 0, 0, 0, 1, 0, 0, 0]], [[1, 0, 0, 0, 0, 0, 0, 0, 0, 0, 0, 0], [0, 1, 0, 0, 0, 0, 0, 0, 0, 0, 0, 0], [0, 0, 1, 0, 0, 0, 0, 0, 0, 0, 0, 0], [0, 0, 0, 1, 0, 0, 0, 0, 0, 0, 0, 0], [0, 0, 0, 0, 1, 0, 0, 0, 0, 0, 0, 0], [0, 0, 0, 0, 0, 1, 0, 0, 0, 0, 0, 0], [0, 0, 0, 0, 0, 0, 1, 0, 0, 0, 0, 0], [0, 0, 0, 0, 0, 0, 0, 1, 0, 0, 0, 0], [0, 0, 0, 0, 0, 0, 0, 0, 1, 0, 0, 0], [0, 0, 0, 0, 0, 0, 0, 0, 0, 1, 0, 0], [0, 0, 0, 0, 0, 0, 0, 0, 0, 0, 1, 0], [0, 0, 0, 0, 0, 0, 0, 0, 0, 0, 0, 1], [-1, 1, 0, -1, 1, 0, -1, 0, 1, -1, 0, 1], [-1, 0, 1, -1, 0, 1, -1, -1, 1, 0, -1, 1], [-1, 0, 0, 0, 0, 0, 0, -1, 0, 0, 0, 0], [0, -1, 0, 0, 0, 0, 0, 0, -1, 0, 0, 0], [0, 0, -1, 0, 0, 0, 0, 0, 0, -1, 0, 0], [0, 0, 0, -1, 0, 0, 0, 0, 0, 0, -1, 0], [0, 0, 0, 0, -1, 0, 0, 0, 0, 0, 0, -1], [1, -1, 0, 1, -1, -1, 1, 0, -1, 1, 0, -1], [1, 0, -1, 1, 0, -1, 0, 1, -1, 0, 1, -1], [1, 0, 0, 0, 0, 0, 0, 0, 0, 0, 0, 0], [0, 1, 0, 0, 0, 0, 0, 0, 0, 0, 0, 0], [0, 0, 1, 0, 0, 0, 0, 0, 0, 0, 0, 0], [0, 0, 0, 1, 0, 0, 0, 0, 0, 0, 0, 0]], [[1, 0, 0, 0, 0, 0, 0, 0, 0, 0], [0, 1, 0, 0, 0, 0, 0, 0, 0, 0], [0, 0, 1, 0, 0, 0, 0, 0, 0, 0], [0, 0, 0, 1, 0, 0, 0, 0, 0, 0], [0, 0, 0, 0, 1, 0, 0, 0, 0, 0], [0, 0, 0, 0, 0, 1, 0, 0, 0, 0], [0, 0, 0, 0, 0, 0, 1, 0, 0, 0], [0, 0, 0, 0, 0, 0, 0, 1, 0, 0], [0, 0, 0, 0, 0, 0, 0, 0, 1, 0], [0, 0, 0, 0, 0, 0, 0, 0, 0, 1], [-1, 1, -1, 1, -1, 1, -1, 1, -1, 1], [-1, 0, 0, 0, 0, 0, 0, 0, 0, 0], [0, -1, 0, 0, 0, 0, 0, 0, 0, 0], [0, 0, -1, 0, 0, 0, 0, 0, 0, 0], [0, 0, 0, -1, 0, 0, 0, 0, 0, 0], [0, 0, 0, 0, -1, 0, 0, 0, 0, 0], [0, 0, 0, 0, 0, -1, 0, 0, 0, 0], [0, 0, 0, 0, 0, 0, -1, 0, 0, 0], [0, 0, 0, 0, 0, 0, 0, -1, 0, 0], [0, 0, 0, 0, 0, 0, 0, 0, -1, 0], [0, 0, 0, 0, 0, 0, 0, 0, 0, -1], [1, -1, 1, -1, 1, -1, 1, -1, 1, -1], [1, 0, 0, 0, 0, 0, 0, 0, 0, 0], [0, 1, 0, 0, 0, 0, 0, 0, 0, 0], [0, 0, 1, 0, 0, 0, 0, 0, 0, 0]], [[1, 0, 0, 0, 0, 0, 0, 0, 0, 0, 0, 0, 0, 0, 0, 0, 0, 0, 0, 0, 0, 0], [0, 1, 0, 0, 0, 0, 0, 0, 0, 0, 0, 0, 0, 0, 0, 0, 0, 0, 0, 0, 0, 0], [0, 0, 1, 0, 0, 0, 0, 0, 0, 0, 0, 0, 0, 0, 0, 0, 0, 0, 0, 0, 0, 0], [0, 0, 0, 1, 0, 0, 0, 0, 0, 0, 0, 0, 0, 0, 0, 0, 0, 0, 0, 0, 0, 0], [0, 0, 0, 0, 1, 0, 0, 0, 0, 0, 0, 0, 0, 0, 0, 0, 0, 0, 0, 0, 0, 0], [0, 0, 0, 0, 0, 1, 0, 0, 0, 0, 0, 0, 0, 0, 0, 0, 0, 0, 0, 0, 0, 0], [0, 0, 0, 0, 0, 0, 1, 0, 0, 0, 0, 0, 0, 0, 0, 0, 0, 0, 0, 0, 0, 0], [0, 0, 0, 0, 0, 0, 0, 1, 0, 0, 0, 0, 0, 0, 0, 0, 0, 0, 0, 0, 0, 0], [0, 0, 0, 0, 0, 0, 0, 0, 1, 0, 0, 0, 0, 0, 0, 0, 0, 0, 0, 0, 0, 0], [0, 0, 0, 0, 0, 0, 0, 0, 0, 1, 0, 0, 0, 0, 0, 0, 0, 0, 0, 0, 0, 0], [0, 0, 0, 0, 0, 0, 0, 0, 0, 0, 1, 0, 0, 0, 0, 0, 0, 0, 0, 0, 0, 0], [0, 0, 0, 0, 0, 0, 0, 0, 0, 0, 0, 1, 0, 0, 0, 0, 0, 0, 0, 0, 0, 0], [0, 0, 0, 0, 0, 0, 0, 0, 0, 0, 0, 0, 1, 0, 0, 0, 0, 0, 0, 0, 0, 0], [0, 0, 0, 0, 0, 0, 0, 0, 0, 0, 0, 0, 0, 1, 0, 0, 0, 0, 0, 0, 0, 0], [0, 0, 0, 0, 0, 0, 0, 0, 0, 0, 0, 0, 0, 0, 1, 0, 0, 0, 0, 0, 0, 0], [0, 0, 0, 0, 0, 0, 0, 0, 0, 0, 0, 0, 0, 0, 0, 1, 0, 0, 0, 0, 0, 0], [0, 0, 0, 0, 0, 0, 0, 0, 0, 0, 0, 0, 0, 0, 0, 0, 1, 0, 0, 0, 0, 0], [0, 0, 0, 0, 0, 0, 0, 0, 0, 0, 0, 0, 0, 0, 0, 0, 0, 1, 0, 0, 0, 0], [0, 0, 0, 0, 0, 0, 0, 0, 0, 0, 0, 0, 0, 0, 0, 0, 0, 0, 1, 0, 0, 0], [0, 0, 0, 0, 0, 0, 0, 0, 0, 0, 0, 0, 0, 0, 0, 0, 0, 0, 0, 1, 0, 0], [0, 0, 0, 0, 0, 0, 0, 0, 0, 0, 0, 0, 0, 0, 0, 0, 0, 0, 0, 0, 1, 0], [0, 0, 0, 0, 0, 0, 0, 0, 0, 0, 0, 0, 0, 0, 0, 0, 0, 0, 0, 0, 0, 1], [-1, -1, -1, -1, -1, -1, -1, -1, -1, -1, -1, -1, -1, -1, -1, -1, -1, -1, -1, -1, -1, -1], [1, 0, 0, 0, 0, 0, 0, 0, 0, 0, 0, 0, 0, 0, 0, 0, 0, 0, 0, 0, 0, 0], [0, 1, 0, 0, 0, 0, 0, 0, 0, 0, 0, 0, 0, 0, 0, 0, 0, 0, 0, 0, 0, 0]], [[1, 0, 0, 0, 0, 0, 0, 0], [0, 1, 0, 0, 0, 0, 0, 0], [0, 0, 1, 0, 0, 0, 0, 0], [0, 0, 0, 1, 0, 0, 0, 0], [0, 0, 0, 0, 1, 0, 0, 0], [0, 0, 0, 0, 0, 1, 0, 0], [0, 0, 0, 0, 0, 0, 1, 0], [0, 0, 0, 0, 0, 0, 0, 1], [-1, 0, 0, 0, 1, 0, 0, 0], [0, -1, 0, 0, 0, 1, 0, 0], [0, 0, -1, 0, 0, 0, 1, 0], [0, 0, 0, -1, 0, 0, 0, 1], [-1, 0, 0, 0, 0, 0, 0, 0], [0, -1, 0, 0, 0, 0, 0, 0], [0, 0, -1, 0, 0, 0, 0, 0], [0, 0, 0, -1, 0, 0, 0, 0], [0, 0, 0, 0, -1, 0, 0, 0], [0, 0, 0, 0, 0, -1, 0, 0], [0, 0, 0, 0, 0, 0, -1, 0], [0, 0, 0, 0, 0, 0, 0, -1], [1, 0, 0, 0, -1, 0, 0, 0], [0, 1, 0, 0, 0, -1, 0, 0], [0, 0, 1, 0, 0, 0, -1, 0], [0, 0, 0, 1, 0, 0, 0, -1], [1, 0, 0, 0, 0, 0, 0, 0]]]
def vR (d i j : Nat) : Int := ((vanT[d]?.getD [])[i]?.getD [])[j]?.getD 0
def vDeg (d : Nat) : Nat := (cyc d).length - 1
/-- a list against a row of numbers, from the o-th one -/
def lin (f : Nat → Int) : List Int → Nat → Int
  | [], _ => 0
  | x :: r, o => x * f o + lin f r (o + 1)
theorem lin_set (f : Nat → Int) : ∀ (r : List Int) (o i : Nat) (v : Int), i < r.length → lin f (r.set i v) o = lin f r o + (v - r[i]?.getD 0) * f (o + i) := by
  intro r
  induction r with
  | nil => intro o i v h; simp at h
  | cons x r ih =>
    intro o i v h
    cases i with
    | zero => simp only [List.set_cons_zero, lin, List.getElem?_cons_zero, Option.getD_some, Nat.add_zero, Int.sub_mul]; omega
    | succ i =>
      simp only [List.length_cons] at h
      simp only [List.set_cons_succ, lin, List.getElem?_cons_succ]
      rw [ih (o + 1) i v (by omega), show o + 1 + i = o + (i + 1) by omega]
      omega
theorem lin_zero (f : Nat → Int) (n o : Nat) : lin f (List.replicate n 0) o = 0 := by
  induction n generalizing o with
  | zero => rfl
  | succ n ih => rw [List.replicate_succ, lin, ih]; omega
theorem lin_append (f : Nat → Int) (a b : List Int) (o : Nat) : lin f (a ++ b) o = lin f a o + lin f b (o + a.length) := by
  induction a generalizing o with
  | nil => simp [lin]
  | cons x r ih => simp only [List.cons_append, lin, ih, List.length_cons]; rw [show o + 1 + r.length = o + (r.length + 1) by omega]; omega
def Cong (a b : Int) : Prop := ∃ q : Int, a = b + q * 18446744073709551616
theorem Cong.refl (a : Int) : Cong a a := ⟨0, by omega⟩
theorem Cong.trans {a b c : Int} (h : Cong a b) (h2 : Cong b c) : Cong a c := by
  obtain ⟨p, rfl⟩ := h
  obtain ⟨q, rfl⟩ := h2
  exact ⟨p + q, by rw [Int.add_mul]; omega⟩
theorem Cong.mul {a b : Int} (h : Cong a b) (c : Int) : Cong (a * c) (b * c) := by
  obtain ⟨p, rfl⟩ := h
  exact ⟨p * c, by rw [Int.add_mul, Int.mul_right_comm]⟩
theorem Cong.add {a b c d : Int} (h : Cong a b) (h2 : Cong c d) : Cong (a + c) (b + d) := by
  obtain ⟨p, rfl⟩ := h
  obtain ⟨q, rfl⟩ := h2
  exact ⟨p + q, by rw [Int.add_mul]; omega⟩
theorem Cong.small {a b : Int} (h : Cong a b) (ha : -9223372036854775808 ≤ a ∧ a ≤ 9223372036854775807) (hb : -9223372036854775808 ≤ b ∧ b ≤ 9223372036854775807) : a = b := by
  obtain ⟨q, h⟩ := h
  omega
theorem wrap_cong (x : Int) : Cong (IntKind.i64.wrap x) x := by
  rw [IntWalk.i64_left]
  refine ⟨-((x + 9223372036854775808) / 18446744073709551616), ?_⟩
  unfold wrap64
  omega
theorem wrap_fits (x : Int) : -9223372036854775808 ≤ IntKind.i64.wrap x ∧ IntKind.i64.wrap x ≤ 9223372036854775807 := by
  rw [IntWalk.i64_left]; unfold wrap64; omega
theorem sm_cong (z x y : Int) : Cong (sm z x y) (z - x * y) := by
  unfold sm
  refine (wrap_cong _).trans ?_
  obtain ⟨q, h⟩ := wrap_cong (x * y)
  rw [h]
  exact ⟨-q, by rw [Int.neg_mul]; omega⟩
theorem sm_fits (z x y : Int) : -9223372036854775808 ≤ sm z x y ∧ sm z x y ≤ 9223372036854775807 := wrap_fits _
def FitL (r : List Int) : Prop := ∀ i : Nat, -9223372036854775808 ≤ r[i]?.getD 0 ∧ r[i]?.getD 0 ≤ 9223372036854775807
theorem FitL.set {r : List Int} (h : FitL r) (i : Nat) {v : Int} (hv : -9223372036854775808 ≤ v ∧ v ≤ 9223372036854775807) : FitL (r.set i v) := by
  intro j
  rw [List.getElem?_set]
  split
  · split
    · exact hv
    · simp
  · exact h j
theorem dRow_fits (b : List Int) (x : Int) (i : Nat) (r : List Int) (h : FitL r) : ∀ k, FitL (dRow b x i r k) := by
  intro k
  induction k with
  | zero => exact h
  | succ k ih => simp only [dRow]; exact ih.set _ (sm_fits _ _ _)
theorem dTo_fits (b : List Int) (n : Nat) (a : List Int) (h : FitL a) : ∀ m, FitL (dTo b n a m) := by
  intro m
  induction m with
  | zero => exact h
  | succ m ih => simp only [dTo]; exact dRow_fits _ _ _ _ ih _
/-- a partial sum of the divisor against the row -/
def bSum (f : Nat → Int) (b : List Int) (i : Nat) : Nat → Int
  | 0 => 0
  | k + 1 => bSum f b i k + b[k]?.getD 0 * f (i + k)
theorem dRow_lin (f : Nat → Int) (b : List Int) (x : Int) (i : Nat) (r : List Int) : ∀ k, i + k ≤ r.length → Cong (lin f (dRow b x i r k) 0) (lin f r 0 - x * bSum f b i k) := by
  intro k
  induction k with
  | zero => intro _; simp only [dRow, bSum]; exact ⟨0, by omega⟩
  | succ k ih =>
    intro h
    have ih := ih (by omega)
    simp only [dRow, bSum]
    rw [lin_set f _ 0 (i + k) _ (by rw [dRow_len]; omega), Nat.zero_add]
    obtain ⟨z, hz⟩ : ∃ z, z = (dRow b x i r k)[i + k]?.getD 0 := ⟨_, rfl⟩
    rw [← hz]
    have h1 := sm_cong z x (b[k]?.getD 0)
    obtain ⟨p, e1⟩ := h1
    obtain ⟨q, e2⟩ := ih
    rw [e1, e2]
    refine ⟨q + p * f (i + k), ?_⟩
    rw [show z - x * b[k]?.getD 0 + p * 18446744073709551616 - z = p * 18446744073709551616 - x * b[k]?.getD 0 by omega, Int.sub_mul, Int.mul_add, Int.add_mul, Int.mul_assoc x, Int.mul_right_comm p]
    omega
theorem dTo_lin (f : Nat → Int) (b a : List Int) (hl : b.length ≤ a.length) (hz : ∀ i, i + b.length ≤ a.length → bSum f b i b.length = 0) : ∀ m, m ≤ a.length - b.length + 1 → Cong (lin f (dTo b (a.length - b.length) a m) 0) (lin f a 0) := by
  intro m
  induction m with
  | zero => intro _; exact Cong.refl _
  | succ m ih =>
    intro h
    simp only [dTo]
    refine (dRow_lin f b _ _ _ _ (by rw [dTo_len]; omega)).trans ?_
    rw [hz _ (by omega), Int.mul_zero, Int.sub_zero]
    exact ih (by omega)
theorem dRow_past (b : List Int) (x : Int) (i : Nat) (r : List Int) {j : Nat} : ∀ k, (j < i ∨ i + k ≤ j) → (dRow b x i r k)[j]? = r[j]? := by
  intro k
  induction k with
  | zero => intro _; rfl
  | succ k ih =>
    intro h
    simp only [dRow]
    rw [List.getElem?_set_ne (by omega)]
    exact ih (by omega)
theorem dTo_high (b a : List Int) (hb : 1 ≤ b.length) (h1 : b[b.length - 1]?.getD 0 = 1) (hl : b.length ≤ a.length) (ha : FitL a) : ∀ m, m ≤ a.length - b.length + 1 → ∀ j, a.length - m ≤ j → (dTo b (a.length - b.length) a m)[j]?.getD 0 = 0 := by
  intro m
  induction m with
  | zero => intro _ j hj; simp only [dTo]; rw [List.getElem?_eq_none (by omega)]; rfl
  | succ m ih =>
    intro h j hj
    simp only [dTo]
    obtain ⟨r, hr⟩ : ∃ r, r = dTo b (a.length - b.length) a m := ⟨_, rfl⟩
    have hrl : r.length = a.length := by rw [hr, dTo_len]
    have hrf : FitL r := by rw [hr]; exact dTo_fits _ _ _ ha _
    have ih := ih (by omega)
    rw [← hr] at ih ⊢
    obtain ⟨L, hL⟩ : ∃ L, L + 1 = b.length := ⟨b.length - 1, by omega⟩
    by_cases e : j = a.length - (m + 1)
    · subst e
      rw [← hL] at h1 ⊢
      rw [Nat.add_sub_cancel] at h1
      have hi : a.length - (L + 1) - m + L = a.length - (m + 1) := by omega
      simp only [dRow]
      rw [hi, List.getElem?_set_self (by rw [dRow_len]; omega), dRow_past _ _ _ _ _ (by omega)]
      simp only [Option.getD_some]
      rw [show a.length - (L + 1) - m + (L + 1) - 1 = a.length - (m + 1) by omega, h1]
      have := hrf (a.length - (m + 1))
      unfold sm
      obtain ⟨v, hv⟩ : ∃ v, v = r[a.length - (m + 1)]?.getD 0 := ⟨_, rfl⟩
      rw [← hv] at this ⊢
      have e1 : IntKind.i64.wrap v = v := IntWalk.i64_in _ this
      rw [Int.mul_one, e1, Int.sub_self]
      exact IntWalk.i64_in _ (by omega)
    · rw [dRow_past _ _ _ _ _ (by omega)]
      exact ih j (by omega)
/-! a list without its zeros at the end -/
theorem trim_form (xs : List Int) : ∃ k, xs = trim xs ++ List.replicate k 0 := by
  unfold trim
  have key : ∀ n, n ≤ xs.length → ∃ k, xs.take n = xs.take (endLen xs n) ++ List.replicate k 0 := by
    intro n
    induction n with
    | zero => intro _; exact ⟨0, by simp [endLen]⟩
    | succ n ih =>
      intro h
      have hx : xs[n]? = some xs[n] := List.getElem?_eq_getElem (by omega)
      by_cases h0 : xs[n] = 0
      · obtain ⟨k, hk⟩ := ih (by omega)
        rw [endLen_zero hx h0]
        refine ⟨k + 1, ?_⟩
        rw [List.take_add_one, hk, hx, h0, List.replicate_succ', List.append_assoc]; rfl
      · rw [endLen_stop hx h0]
        exact ⟨0, by simp⟩
  have := key xs.length (Nat.le_refl _)
  rw [List.take_length] at this
  exact this
theorem lin_trim (f : Nat → Int) (xs : List Int) : lin f (trim xs) 0 = lin f xs 0 := by
  obtain ⟨k, h⟩ := trim_form xs
  have e : lin f xs 0 = lin f (trim xs ++ List.replicate k 0) 0 := by rw [← h]
  rw [e, lin_append, lin_zero]; omega
theorem endLen_high (xs : List Int) (m : Nat) : ∀ n, (∀ j, m ≤ j → xs[j]?.getD 0 = 0) → endLen xs n ≤ m := by
  intro n h
  induction n with
  | zero => simp [endLen]
  | succ n ih =>
    simp only [endLen]
    split
    · exact ih
    · by_cases hm : m ≤ n
      · exact absurd (h n hm) (by assumption)
      · omega
theorem trim_high {xs : List Int} {m : Nat} (h : ∀ j, m ≤ j → xs[j]?.getD 0 = 0) : (trim xs).length ≤ m := by
  rw [trim_len]; exact endLen_high _ _ _ h
theorem trim_nil {xs : List Int} : (trim xs).length = 0 ↔ ∀ j : Nat, xs[j]?.getD 0 = 0 := by
  constructor
  · intro h j
    obtain ⟨k, e⟩ := trim_form xs
    rw [List.length_eq_zero_iff.1 h, List.nil_append] at e
    rw [e, List.getElem?_replicate]
    split <;> rfl
  · intro h
    have := trim_high (m := 0) (fun j _ => h j)
    omega
/-! what the table is checked for -/
def vanB : Bool := (List.range 25).all fun d => d == 0 || (decide (1 ≤ (cyc d).length) && decide ((cyc d)[(cyc d).length - 1]?.getD 0 = 1) && decide ((((cyc d).length : Nat) : Int) = tot d + 1) && ((List.range (26 - (cyc d).length)).all fun i => (List.range (vDeg d)).all fun j => decide (bSum (fun p => vR d p j) (cyc d) i (cyc d).length = 0)) && ((List.range (vDeg d)).all fun i => (List.range (vDeg d)).all fun j => decide (vR d i j = if i = j then 1 else 0)) && ((List.range 25).all fun i => (List.range 25).all fun j => decide (-2 ≤ vR d i j) && decide (vR d i j ≤ 2)))
set_option maxRecDepth 100000 in
theorem vanB_all : vanB = true := by decide +kernel
structure VanFacts (d : Nat) : Prop where
  len : 1 ≤ (cyc d).length
  one : (cyc d)[(cyc d).length - 1]?.getD 0 = 1
  tot : (((cyc d).length : Nat) : Int) = tot d + 1
  zero : ∀ i j, i + (cyc d).length ≤ 25 → j < vDeg d → bSum (fun p => vR d p j) (cyc d) i (cyc d).length = 0
  unit : ∀ i j, i < vDeg d → j < vDeg d → vR d i j = if i = j then 1 else 0
  small : ∀ i j, i < 25 → j < 25 → -2 ≤ vR d i j ∧ vR d i j ≤ 2
theorem van_facts {d : Nat} (h1 : 1 ≤ d) (h : d ≤ 24) : VanFacts d := by
  have := vanB_all
  unfold vanB at this
  rw [List.all_eq_true] at this
  have := this d (List.mem_range.2 (by omega))
  simp only [Bool.or_eq_true, beq_iff_eq, Bool.and_eq_true, decide_eq_true_eq, List.all_eq_true, List.mem_range] at this
  rcases this with h0 | ⟨⟨⟨⟨⟨a1, a2⟩, a3⟩, a4⟩, a5⟩, a6⟩
  · omega
  · exact ⟨a1, a2, a3, fun i j hi hj => a4 i (by omega) j hj, fun i j hi hj => a5 i hi j hj, fun i j hi hj => a6 i hi j hj⟩
theorem lin_unit (f : Nat → Int) (j m : Nat) (hf : ∀ i, i < m → f i = if i = j then 1 else 0) : ∀ (r : List Int) (o : Nat), (∀ i, m ≤ o + i → r[i]?.getD 0 = 0) → lin f r o = if o ≤ j ∧ j < m then r[j - o]?.getD 0 else 0 := by
  intro r
  induction r with
  | nil => intro o _; simp [lin]
  | cons x r ih =>
    intro o h
    simp only [lin]
    rw [ih (o + 1) (fun i hi => by have := h (i + 1) (by omega); rwa [List.getElem?_cons_succ] at this)]
    by_cases hom : o < m
    · rw [hf o hom]
      by_cases e : o = j
      · subst e
        rw [if_pos rfl, if_neg (by omega), if_pos ⟨by omega, hom⟩, Nat.sub_self]
        simp
      · rw [if_neg e, Int.mul_zero, Int.zero_add]
        by_cases h2 : o ≤ j ∧ j < m
        · rw [if_pos h2, if_pos ⟨by omega, h2.2⟩, show j - o = (j - (o + 1)) + 1 by omega, List.getElem?_cons_succ]
        · rw [if_neg h2, if_neg (by omega)]
    · have := h 0 (by omega)
      simp only [List.getElem?_cons_zero, Option.getD_some] at this
      rw [this, if_neg (by omega), if_neg (by omega)]; omega
/-- the polynomial of a rhythm against a row: a sum over the beats -/
theorem poly_lin (f : Nat → Int) {n : Nat} {xs : List Int} (hb : ∀ x ∈ xs, 0 ≤ x ∧ x < n) (ha : xs.Pairwise (· < ·)) : ∀ k, k ≤ xs.length → lin f (polyTo n xs k) 0 = ((xs.take k).map fun p => f p.toNat).sum ∧ ∀ j : Nat, (∀ x ∈ xs.take k, x.toNat ≠ j) → (polyTo n xs k)[j]?.getD 0 = 0 := by
  intro k
  induction k with
  | zero => intro _; refine ⟨by simp [polyTo, lin_zero], fun j _ => ?_⟩; simp only [polyTo]; rw [List.getElem?_replicate]; split <;> rfl
  | succ k ih =>
    intro h
    obtain ⟨h1, h2⟩ := ih (by omega)
    have hx : xs[k]? = some xs[k] := List.getElem?_eq_getElem (by omega)
    have hm := hb _ (List.getElem_mem (show k < xs.length by omega))
    rw [polyTo_step hx]
    have hz : (polyTo n xs k)[xs[k].toNat]?.getD 0 = 0 := h2 _ fun x hxm => by
      obtain ⟨i, hi, e⟩ := List.getElem_of_mem hxm
      rw [List.length_take] at hi
      rw [List.getElem_take] at e
      have h3 := hb x (List.mem_of_mem_take hxm)
      have := (List.pairwise_iff_getElem.1 ha) i k (by omega) (by omega) (by omega)
      omega
    refine ⟨?_, fun j hj => ?_⟩
    · rw [lin_set f _ 0 _ 1 (by rw [polyTo_len]; omega), hz, h1, List.take_add_one, hx, Nat.zero_add]
      simp only [Option.toList_some, List.map_append, List.map_cons, List.map_nil, List.sum_append, List.sum_cons, List.sum_nil]
      omega
    · rw [List.getElem?_set_ne (fun e => hj xs[k] (by rw [List.take_add_one, hx]; exact List.mem_append_right _ (List.mem_singleton.2 rfl)) e)]
      exact h2 j fun x hxm => hj x (by rw [List.take_add_one]; exact List.mem_append_left _ hxm)
theorem polyTo_fits {n : Nat} {xs : List Int} : ∀ k, FitL (polyTo n xs k) := by
  intro k
  induction k with
  | zero => intro j; simp only [polyTo]; rw [List.getElem?_replicate]; split <;> simp
  | succ k ih => simp only [polyTo]; exact ih.set _ (by omega)
theorem trim_fits {xs : List Int} (h : FitL xs) : FitL (trim xs) := by
  intro j
  unfold trim
  rw [List.getElem?_take]
  split
  · exact h j
  · simp
def vSum (d : Nat) (xs : List Int) (j : Nat) : Int := (xs.map fun p => vR d p.toNat j).sum
theorem sum_small {f : Int → Int} {xs : List Int} (h : ∀ x ∈ xs, -2 ≤ f x ∧ f x ≤ 2) : -(2 * (xs.length : Int)) ≤ (xs.map f).sum ∧ (xs.map f).sum ≤ 2 * (xs.length : Int) := by
  induction xs with
  | nil => simp
  | cons x r ih =>
    have := ih fun y hy => h y (List.mem_cons_of_mem _ hy)
    have := h x List.mem_cons_self
    simp only [List.map_cons, List.sum_cons, List.length_cons]
    omega
theorem vR_out {d i j : Nat} (h1 : 1 ≤ d) (h : d ≤ 24) (hi : i < 25) (hj : j < 25) : -2 ≤ vR d i j ∧ vR d i j ≤ 2 := (van_facts h1 h).small i j hi hj
theorem rest_at {n : Nat} {xs : List Int} (hok : rhOk n xs = true) {d : Nat} (h1 : 1 ≤ d) (h24 : d ≤ 24) :
    ∃ L, restL (polyL n xs) (cyc d) = trim L ∧ (∀ j, vDeg d ≤ j → L[j]?.getD 0 = 0) ∧ ∀ j, j < vDeg d → L[j]?.getD 0 = vSum d xs j := by
  obtain ⟨hn, hb, ha⟩ := rhOk_iff.1 hok
  have F := van_facts h1 h24
  have hl24 := cyc_le h1 h24
  have hlen := (rhOk_len hok).1
  obtain ⟨a, hA⟩ : ∃ a, a = polyL n xs := ⟨_, rfl⟩
  have hal : a.length ≤ 24 := by rw [hA]; exact polyL_len hn
  have hfa : FitL a := by rw [hA]; unfold polyL; exact trim_fits (polyTo_fits _)
  have hlin : ∀ f, lin f a 0 = (xs.map fun p => f p.toNat).sum := fun f => by
    rw [hA]; unfold polyL
    rw [lin_trim, Int.toNat_natCast, (poly_lin f hb ha xs.length (Nat.le_refl _)).1, List.take_length]
  rw [← hA]
  have hdeg : vDeg d + 1 = (cyc d).length := by unfold vDeg; have := F.len; omega
  have hone := F.len
  obtain ⟨L, hL⟩ : ∃ L, L = dTo (cyc d) (a.length - (cyc d).length) a (steps a (cyc d)) := ⟨_, rfl⟩
  have hfit : FitL L := by rw [hL]; exact dTo_fits _ _ _ hfa _
  have hhigh : ∀ j, vDeg d ≤ j → L[j]?.getD 0 = 0 := by
    intro j hj
    by_cases hle : (cyc d).length ≤ a.length
    · rw [hL, show steps a (cyc d) = a.length - (cyc d).length + 1 by unfold steps; omega]
      exact dTo_high _ _ F.len F.one hle hfa _ (Nat.le_refl _) j (by omega)
    · rw [hL, show steps a (cyc d) = 0 by unfold steps; omega]
      simp only [dTo]
      rw [List.getElem?_eq_none (by omega)]; rfl
  refine ⟨L, by unfold restL; rw [hL], hhigh, fun j hj => ?_⟩
  have hcong : Cong (lin (fun p => vR d p j) L 0) (lin (fun p => vR d p j) a 0) := by
    by_cases hle : (cyc d).length ≤ a.length
    · rw [hL, show steps a (cyc d) = a.length - (cyc d).length + 1 by unfold steps; omega]
      exact dTo_lin _ _ _ hle (fun i hi => F.zero i j (by omega) hj) _ (Nat.le_refl _)
    · rw [hL, show steps a (cyc d) = 0 by unfold steps; omega]
      exact Cong.refl _
  rw [lin_unit (fun p => vR d p j) j (vDeg d) (fun i hi => F.unit i j hi hj) L 0 (fun i hi => hhigh i (by omega)), if_pos ⟨Nat.zero_le _, hj⟩, Nat.sub_zero, hlin] at hcong
  have hs : -(2 * (xs.length : Int)) ≤ vSum d xs j ∧ vSum d xs j ≤ 2 * (xs.length : Int) := sum_small fun x hx => F.small _ _ (by have := hb x hx; omega) (by omega)
  exact hcong.small (hfit j) (by unfold vSum at hs; omega)
/-- the rest has fewer numbers than the divisor's degree -/
theorem rest_tot {n : Nat} {xs : List Int} (hok : rhOk n xs = true) {d : Nat} (h1 : 1 ≤ d) (h24 : d ≤ 24) : ((restI n xs d).length : Int) ≤ tot d := by
  obtain ⟨L, e, h2, _⟩ := rest_at hok h1 h24
  have F := van_facts h1 h24
  unfold restI
  rw [if_pos ⟨hok, inB_yes (by omega)⟩, Int.toNat_natCast, e]
  have := trim_high h2
  have := F.tot
  have := F.len
  unfold vDeg at *
  omega
/-- the rhythm vanishes where the sums over its beats do -/
theorem van_iff {n : Nat} {xs : List Int} (hok : rhOk n xs = true) {d : Nat} (h1 : 1 ≤ d) (h24 : d ≤ 24) : vanI n xs d = true ↔ ∀ j, j < vDeg d → vSum d xs j = 0 := by
  obtain ⟨L, e, h2, h3⟩ := rest_at hok h1 h24
  unfold vanI restI
  rw [hok, inB_yes (by omega : (1 : Int) ≤ (d : Int) ∧ (d : Int) ≤ 24), if_pos ⟨rfl, rfl⟩, Int.toNat_natCast, e]
  simp only [Bool.true_and, decide_eq_true_eq]
  rw [trim_nil]
  constructor
  · intro h j hj
    rw [← h3 j hj]; exact h j
  · intro h j
    by_cases hj : j < vDeg d
    · rw [h3 j hj]; exact h j hj
    · exact h2 j (by omega)
/-! rotations -/
theorem rot_ok' {n : Nat} {xs : List Int} (h1 : 1 ≤ n) (h24 : n ≤ 24) (k : Int) : rhOk n (rotL n xs k) = true := by
  refine rhOk_iff.2 ⟨⟨by omega, by omega⟩, fun x hx => ?_, coll_asc _⟩
  obtain ⟨p, _, rfl⟩ := rot_mem'.1 hx
  exact ⟨Int.emod_nonneg _ (by omega), Int.emod_lt_of_pos _ (by omega)⟩
def vMul (d p k j : Nat) : Nat → Int
  | 0 => 0
  | i + 1 => vMul d p k j i + vR d p i * vR d (i + k) j
def rotVB : Bool := (List.range 17).all fun n => n == 0 || (List.range 13).all fun d => d == 0 || n % d != 0 || (List.range n).all fun p => (List.range n).all fun k => (List.range (vDeg d)).all fun j => decide (vR d ((p + k) % n) j = vMul d p (k % d) j (vDeg d))
set_option maxRecDepth 100000 in
theorem rotVB_all : rotVB = true := by decide +kernel
theorem rotV {n d p k j : Nat} (hn1 : 1 ≤ n) (hn : n ≤ 16) (hd1 : 1 ≤ d) (hd : d ≤ 12) (h0 : n % d = 0) (hp : p < n) (hk : k < n) (hj : j < vDeg d) : vR d ((p + k) % n) j = vMul d p (k % d) j (vDeg d) := by
  have := rotVB_all
  unfold rotVB at this
  rw [List.all_eq_true] at this
  have := this n (List.mem_range.2 (by omega))
  simp only [Bool.or_eq_true, beq_iff_eq, bne_iff_ne, decide_eq_true_eq, List.all_eq_true, List.mem_range] at this
  rcases this with h | h
  · omega
  · rcases h d (by omega) with (h | h) | h
    · omega
    · exact absurd h0 h
    · exact h p hp k hk j hj
def vMulS (d : Nat) (xs : List Int) (k j : Nat) : Nat → Int
  | 0 => 0
  | i + 1 => vMulS d xs k j i + vSum d xs i * vR d (i + k) j
theorem vMul_sum (d : Nat) (xs : List Int) (k j m : Nat) : (xs.map fun p => vMul d p.toNat k j m).sum = vMulS d xs k j m := by
  induction m with
  | zero => simp only [vMul, vMulS]; induction xs with | nil => rfl | cons x r ih => simp [ih]
  | succ m ih =>
    simp only [vMul, vMulS]
    rw [← ih]
    unfold vSum
    clear ih
    induction xs with
    | nil => simp
    | cons x r ih =>
      simp only [List.map_cons, List.sum_cons, Int.add_mul]
      rw [ih]; omega
theorem vMulS_zero {d : Nat} {xs : List Int} {k j : Nat} : ∀ m, (∀ i, i < m → vSum d xs i = 0) → vMulS d xs k j m = 0 := by
  intro m
  induction m with
  | zero => intro _; rfl
  | succ m ih => intro h; simp only [vMulS]; rw [ih (fun i hi => h i (by omega)), h m (by omega)]; omega
theorem rot_perm {n : Nat} {xs : List Int} (hok : rhOk n xs = true) (k : Int) : (rotL n xs k).Perm (xs.map fun p => (p + k) % n) := by
  obtain ⟨hn, hb, ha⟩ := rhOk_iff.1 hok
  refine (List.perm_ext_iff_of_nodup ?_ ?_).2 fun x => ?_
  · exact (coll_asc _).imp (fun h => by omega)
  · refine List.pairwise_map.2 (ha.imp_of_mem fun {a b} hxa hxb h => ?_)
    have h1 := hb a hxa
    have h2 := hb b hxb
    intro e
    have e1 := congrArg (fun z => (z - k) % (n : Int)) e
    simp only [Int.emod_sub_emod] at e1
    rw [show a + k - k = a by omega, show b + k - k = b by omega, Int.emod_eq_of_lt h1.1 h1.2, Int.emod_eq_of_lt h2.1 h2.2] at e1
    omega
  · rw [rot_mem', List.mem_map]
theorem int_sum_perm {a b : List Int} (h : a.Perm b) : a.sum = b.sum := by
  induction h with
  | nil => rfl
  | cons x _ ih => simp [ih]
  | swap x y l => simp only [List.sum_cons]; omega
  | trans _ _ h1 h2 => exact h1.trans h2
theorem map_sum_congr {f g : Int → Int} {xs : List Int} (h : ∀ x ∈ xs, f x = g x) : (xs.map f).sum = (xs.map g).sum := by
  rw [List.map_congr_left h]
/-- a rotation vanishes exactly where the rhythm does -/
theorem van_rot {n : Nat} {xs : List Int} (hok : rhOk n xs = true) (hn : n ≤ 16) {d k : Nat} (h1 : 1 ≤ d) (h12 : d ≤ 12) (h0 : n % d = 0) (hk : k < n) : vanI n (rotL n xs (k : Int)) d = vanI n xs d := by
  obtain ⟨hn1, hb, ha⟩ := rhOk_iff.1 hok
  have hok2 := rot_ok' (n := n) (xs := xs) (by omega) (by omega) (k : Int)
  have es : ∀ j, vSum d (rotL n xs (k : Int)) j = (xs.map fun p => vR d ((p.toNat + k) % n) j).sum := fun j => by
    unfold vSum
    rw [int_sum_perm ((rot_perm hok (k : Int)).map _), List.map_map]
    refine map_sum_congr fun x hx => ?_
    have := hb x hx
    obtain ⟨q, rfl⟩ := Int.eq_ofNat_of_zero_le this.1
    simp only [Function.comp]
    rw [show ((q : Int) + (k : Int)) % (n : Int) = (((q + k) % n : Nat) : Int) by rw [Int.natCast_emod]; rfl]
    simp only [Int.toNat_natCast]
  have hpn : ∀ x ∈ xs, x.toNat < n := fun x hx => by have := hb x hx; omega
  rw [Bool.eq_iff_iff, van_iff hok2 h1 (by omega), van_iff hok h1 (by omega)]
  constructor
  · intro h j hj
    have e2 : vSum d xs j = (((rotL n xs (k : Int))).map fun p => vMul d p.toNat (((n - k) % n) % d) j (vDeg d)).sum := by
      rw [int_sum_perm ((rot_perm hok (k : Int)).map _), List.map_map]
      unfold vSum
      refine map_sum_congr fun x hx => ?_
      have hx2 := hb x hx
      obtain ⟨q, rfl⟩ := Int.eq_ofNat_of_zero_le hx2.1
      simp only [Function.comp]
      rw [show ((q : Int) + (k : Int)) % (n : Int) = (((q + k) % n : Nat) : Int) by rw [Int.natCast_emod]; rfl]
      simp only [Int.toNat_natCast]
      rw [← rotV (n := n) (by omega) hn h1 h12 h0 (Nat.mod_lt _ (by omega)) (Nat.mod_lt _ (by omega)) hj]
      congr 1
      rw [← Nat.add_mod, show q + k + (n - k) = q + n by omega, Nat.add_mod_right, Nat.mod_eq_of_lt (by omega)]
    rw [e2, vMul_sum]
    exact vMulS_zero _ h
  · intro h j hj
    rw [es]
    have : (xs.map fun p => vR d ((p.toNat + k) % n) j).sum = (xs.map fun p => vMul d p.toNat (k % d) j (vDeg d)).sum := map_sum_congr fun x hx => rotV (by omega) hn h1 h12 h0 (hpn x hx) hk hj
    rw [this, vMul_sum]
    exact vMulS_zero _ h
end Go.Proofs.YtikifkbgmniobaaGreat
