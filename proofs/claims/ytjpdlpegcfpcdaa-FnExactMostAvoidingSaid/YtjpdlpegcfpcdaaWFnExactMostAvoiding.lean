/- The law on MostAvoiding, walked. -/
import Derived.Test.YtjpdlpegcfpcdaaMostAv
namespace Go.Proofs.Ytjpdlpegcfpcdaa
open Go.RowKit

set_option maxHeartbeats 400000 in
theorem walkFnExactMostAvoiding (n : Int) (_hn : -9223372036854775808 ≤ n ∧ n ≤ 9223372036854775807) (d : Int) (_hd : -9223372036854775808 ≤ d ∧ d ≤ 9223372036854775807) (w : World) :
    Calls Try.prog 3 #[.int .i64 n, .int .i64 d] w fun e w' => e = .returned (.bool true) ∧ Below w.heap.size w w' := by
  go_enter Try.func3, Try.ntmps3
  go_wp2_with (first | (go_at_call 10; refine (specMostAv_any _ _ _).mono ?_; rintro e w' ⟨rfl, rfl⟩) | (go_at_call 11; refine (implMostAv_any _ _ _).mono ?_; rintro e w' ⟨rfl, k, rfl⟩))
  go_ret
  exact ⟨rfl, bdrewN_refl _ _⟩
end Go.Proofs.Ytjpdlpegcfpcdaa
