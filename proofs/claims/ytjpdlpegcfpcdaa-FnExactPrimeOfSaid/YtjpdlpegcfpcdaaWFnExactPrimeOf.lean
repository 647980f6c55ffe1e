/- The law on PrimeOf, walked. -/
import Derived.Test.YtjpdlpegcfpcdaaPrimeOf
namespace Go.Proofs.Ytjpdlpegcfpcdaa
open Go.RowKit

set_option maxHeartbeats 400000 in
theorem walkFnExactPrimeOf (n : Int) (_hn : -9223372036854775808 ≤ n ∧ n ≤ 9223372036854775807) (w : World) :
    Calls Try.prog 5 #[.int .i64 n] w fun e w' => e = .returned (.bool true) ∧ Below w.heap.size w w' := by
  go_enter Try.func5, Try.ntmps5
  go_wp2_with (first | (go_at_call 14; refine (specPrimeOf_any _ _).mono ?_; rintro e w' ⟨rfl, rfl⟩) | (go_at_call 15; refine (implPrimeOf_any _ _).mono ?_; rintro e w1 ⟨rfl, b1⟩))
  go_ret
  exact ⟨rfl, b1⟩
end Go.Proofs.Ytjpdlpegcfpcdaa
