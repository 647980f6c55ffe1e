/- The law on Totient, walked. -/
import Derived.Test.YtjpdlpegcfpcdaaTotient
namespace Go.Proofs.Ytjpdlpegcfpcdaa
open Go.RowKit

set_option maxHeartbeats 400000 in
theorem walkFnExactTotient (n : Int) (_hn : -9223372036854775808 ≤ n ∧ n ≤ 9223372036854775807) (w : World) :
    Calls Try.prog 4 #[.int .i64 n] w fun e w' => e = .returned (.bool true) ∧ Below w.heap.size w w' := by
  go_enter Try.func4, Try.ntmps4
  go_wp2_with (first | (go_at_call 12; refine (specTotient_any _ _).mono ?_; rintro e w' ⟨rfl, k, rfl⟩) | (go_at_call 13; refine (implTotient_any _ _).mono ?_; rintro e w' ⟨rfl, k, rfl⟩))
  go_ret
  exact ⟨rfl, bdrewN_refl _ _⟩
end Go.Proofs.Ytjpdlpegcfpcdaa
