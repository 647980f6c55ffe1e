/- The reference's greatest common divisor. -/
import Derived.Test.YtjpdlpegcfpcdaaNum
namespace Go.Proofs.Ytjpdlpegcfpcdaa
open Go.RowKit

set_option maxHeartbeats 400000 in
theorem l02Gcd_any (a b : Int) (ha : 0 ≤ a) (hb : 0 ≤ b) (ha1 : a ≤ 1000000000000) (hb1 : b ≤ 1000000000000) (w : World) :
    Calls Try.prog 32 #[.int .i64 a, .int .i64 b] w fun e w' => e = .returned (.int .i64 (gcdI a b)) ∧ w = w' := by
  go_enter Try.func32, Try.ntmps32
  go_wp2
  go_loop [0, 1] (fun x y => ∃ (p q : Int), 0 ≤ p ∧ 0 ≤ q ∧ p ≤ 1000000000000 ∧ q ≤ 1000000000000 ∧ x = .int .i64 p ∧ y = .int .i64 q ∧ gcdI p q = gcdI a b) (fun _ y => (intOf y).toNat)
  case atStart => exact ⟨a, b, ha, hb, ha1, hb1, rfl, rfl, rfl⟩
  case round =>
    obtain ⟨p, q, hp, hq, hp1, hq1, rfl, rfl, hg⟩ := hrel
    have HG := Lib.hid hg
    clear hg
    by_cases h0 : q = 0
    · subst h0
      go_wp2
      go_ret
      exact ⟨ret_int (by rw [← HG.out, gcdI_zero p hp]), rfl⟩
    · have hq0 : 0 < q := by omega
      have hm := Int.emod_nonneg p (b := q) (by omega)
      have hm2 := Int.emod_lt_of_pos p hq0
      go_wp2
      go_round
      case rel => exact ⟨q, p % q, hq, hm, hq1, by omega, rfl, rfl, by rw [gcdI_step p q hp hq0]; exact HG.out⟩
      case measure => simp [intOf]; omega
end Go.Proofs.Ytjpdlpegcfpcdaa
