/- The law on CountEven, walked. -/
import Derived.Test.YtihbgpcmphemmaaCEv
import Derived.Test.YtihbgpcmphemmaaLawRh
import Derived.Test.YtihbgpcmphemmaaFinRh
import Derived.Test.YtihbgpcmphemmaaBas
import Derived.Test.YtihbgpcmphemmaaLawCn
import Derived.Deep.RegionHeld3
import Derived.Deep.DeepCutAuto
namespace Go.Proofs.Ytihbgpcmphemmaa
open Go.RowKit

set_option maxHeartbeats 4000000 in
set_option maxRecDepth 20000 in
theorem walkFnExactCountEven (w : World) (d0 : Int) (_hd0 : -9223372036854775808 ≤ d0 ∧ d0 ≤ 9223372036854775807) (d1 : Int) (_hd1 : -9223372036854775808 ≤ d1 ∧ d1 ≤ 9223372036854775807) :
    Calls Try.prog 3 #[.int .i64 d0, .int .i64 d1] w fun e w' => e = .returned (.bool true) ∧ Below w.heap.size w w' := by
  have bw : Below w.heap.size w w := Below.refl _ _
  go_enter Try.func3, Try.ntmps3
  go_wp2_with fail
  refine (specCntEv_any _ _ _).mono ?_
  rintro e w1 ⟨rfl, b⟩
  have zw1 := b.size
  replace bw := bw.trans (b.mono bw.size)
  clear b
  go_wp2_with fail
  refine (implCntEv_any _ _ _).mono ?_
  rintro e w2 ⟨rfl, b⟩
  have zw2 := b.size
  replace bw := bw.trans (b.mono bw.size)
  clear b
  go_wp2_with fail
  go_ret
  exact ⟨rfl, bw⟩
end Go.Proofs.Ytihbgpcmphemmaa
