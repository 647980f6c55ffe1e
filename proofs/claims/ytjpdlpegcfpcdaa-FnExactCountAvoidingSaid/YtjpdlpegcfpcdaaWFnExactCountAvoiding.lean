/- The law on CountAvoiding, walked. -/
import Derived.Test.YtjpdlpegcfpcdaaCntJoin
namespace Go.Proofs.Ytjpdlpegcfpcdaa
open Go.RowKit

set_option maxHeartbeats 400000 in
theorem walkFnExactCountAvoiding (w : World) (n : Int) (_hn : -9223372036854775808 ≤ n ∧ n ≤ 9223372036854775807) (d : Int) (_hd : -9223372036854775808 ≤ d ∧ d ≤ 9223372036854775807) (k : Int) (_hk : -9223372036854775808 ≤ k ∧ k ≤ 9223372036854775807) :
    Calls Try.prog 9 #[.int .i64 n, .int .i64 d, .int .i64 k] w fun e w' => e = .returned (.bool true) ∧ Below w.heap.size w w' := by
  have h := Lib.hid (fun W => implCount_any n d k W)
  go_enter Try.func9, Try.ntmps9
  go_wp2_with (first | (go_at_call 29; refine (specCount_any _ _ _ _).mono ?_; rintro e w1 ⟨rfl, b1⟩) | (go_at_call 30; refine (implCount_any _ _ _ _).mono ?_; rintro e w' ⟨rfl, m, rfl⟩; rw [count_eq]))
  go_ret
  exact ⟨rfl, bdrewN b1 _⟩
end Go.Proofs.Ytjpdlpegcfpcdaa
