/- Whether a rhythm has a beat, in the reference's words. -/
import Derived.Test.YtlgiijibekobfaaBas
import Derived.Deep.RegionHeld3
namespace Go.Proofs.Ytlgiijibekobfaa
open Go.RowKit

theorem l02Mod_any (k n : Int) (hn : 1 ≤ n) (hn2 : n ≤ 1000000) (w : World) :
    Calls Try.prog 99 #[.int .i64 k, .int .i64 n] w fun e w' => e = .returned (.int .i64 (k % n)) ∧ w = w' := by
  have hr := tmod_rem k n hn
  go_enter Try.func99, Try.ntmps99
  go_wp2
  go_ret
  exact ⟨ret_int hr.1, rfl⟩
end Go.Proofs.Ytlgiijibekobfaa
