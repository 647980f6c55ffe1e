/- The program's greatest common divisor. -/
import Derived.Test.YtckgpkkflfhfpaaNum
import Derived.Deep.QuietTactic
import Derived.BigQuiet
namespace Go.Proofs.Ytckgpkkflfhfpaa
open Go.RowKit

set_option maxHeartbeats 400000 in
theorem gcd_any (a b : Int) (ha : 0 ≤ a) (hb : 0 ≤ b) (ha1 : a ≤ 1000000000000) (hb1 : b ≤ 1000000000000) (w : World) :
    Calls Try.prog 50 #[.int .i64 a, .int .i64 b] w fun e w' => e = .returned (.int .i64 (gcdI a b)) ∧ ∃ k, w' = w.drewN k := by
  go_enter Try.func50, Try.ntmps50
  go_wp2
  go_loopw [0, 1] (fun x y wr => ∃ (p q : Int) (n : Nat), 0 ≤ p ∧ 0 ≤ q ∧ p ≤ 1000000000000 ∧ q ≤ 1000000000000 ∧ x = .int .i64 p ∧ y = .int .i64 q ∧ wr = w.drewN n ∧ gcdI p q = gcdI a b) (fun _ y _ => (intOf y).toNat)
  case atStart => exact ⟨a, b, 0, ha, hb, ha1, hb1, rfl, rfl, rfl, rfl⟩
  case round =>
    obtain ⟨p, q, n, hp, hq, hp1, hq1, rfl, rfl, rfl, hg⟩ := hrel
    have HG := Lib.hid hg
    clear hg
    by_cases h0 : q = 0
    · subst h0
      go_wp2
      go_ret
      exact ⟨ret_int (by rw [← HG.out, gcdI_zero p hp]), n, rfl⟩
    · have hne : (q != 0) = true := by simpa using h0
      have hq0 : 0 < q := by omega
      have hm := Int.emod_nonneg p (b := q) (by omega)
      have hm2 := Int.emod_lt_of_pos p hq0
      go_wp2
      go_quiet (fail)
      go_wp2
      go_roundw
      case rel => exact ⟨q, p % q, _, hq, hm, hq1, by omega, rfl, rfl, drewN2 _ _ _, by rw [gcdI_step p q hp hq0]; exact HG.out⟩
      case measure => simp [intOf]; omega
end Go.Proofs.Ytckgpkkflfhfpaa
