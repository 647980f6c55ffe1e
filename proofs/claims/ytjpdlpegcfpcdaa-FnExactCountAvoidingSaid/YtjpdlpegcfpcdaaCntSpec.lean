/- The reference's count of the rhythms that avoid an interval, walked. -/
import Derived.Test.YtjpdlpegcfpcdaaCntPlain
import Derived.Test.YtjpdlpegcfpcdaaL01In
import Derived.Test.YtjpdlpegcfpcdaaL02Gcd
import Derived.StillTailTactics
import Derived.Deep.RegionWith
namespace Go.Proofs.Ytjpdlpegcfpcdaa
open Go.RowKit

theorem chTo_fin : ∀ n : Fin 17, ∀ k : Fin 17, k ≤ n → ∀ i : Fin 17, i ≤ k → 0 ≤ chTo (n : Nat) (k : Nat) i ∧ chTo (n : Nat) (k : Nat) i ≤ 20000 := by decide +kernel
theorem chTo_bd (n k i : Nat) (hn : n ≤ 16) (hk : k ≤ n) (hi : i ≤ k) : 0 ≤ chTo n k i ∧ chTo n k i ≤ 20000 := by
  have := chTo_fin ⟨n, by omega⟩ ⟨k, by omega⟩ (by simpa using hk) ⟨i, by omega⟩ (by simpa using hi)
  simpa using this
theorem mul_bd (x y : Int) (X Y : Int) (hx : 0 ≤ x ∧ x ≤ X) (hy : 0 ≤ y ∧ y ≤ Y) : 0 ≤ x * y ∧ x * y ≤ X * Y :=
  ⟨Int.mul_nonneg hx.1 hy.1, Int.mul_le_mul hx.2 hy.2 hy.1 (Int.le_trans hx.1 hx.2)⟩
theorem chTo_succ (n k : Int) (i : Nat) : chTo n k (i + 1) = (chTo n k i * (n - k + ((i : Int) + 1))) / ((i : Int) + 1) := rfl

set_option maxHeartbeats 400000 in
theorem l08Choose_in (n k : Nat) (hn : n ≤ 16) (hk : k ≤ n) (w : World) :
    Calls Try.prog 41 #[.int .i64 n, .int .i64 k] w fun e w' => e = .returned (.int .i64 (chI n k)) ∧ w = w' := by
  have HR : Bx (chI (n : Int) (k : Int) = chTo n k k) := ⟨by unfold chI; rw [if_neg (by omega)]; simp⟩
  go_enter Try.func41, Try.ntmps41
  go_wp2
  go_loop [5, 6] (fun x v => ∃ i : Nat, i ≤ k ∧ v = .int .i64 ((i : Int) + 1) ∧ x = .int .i64 (chTo n k i)) (fun _ v => (k + 1 - intOf v).toNat)
  case atStart => exact ⟨0, by omega, rfl, rfl⟩
  case round =>
    obtain ⟨i, hi, rfl, rfl⟩ := hrel
    have hb := chTo_bd n k i hn hk hi
    by_cases hlt : i < k
    · have hm := mul_bd _ ((n : Int) - k + ((i : Int) + 1)) 20000 100 hb ⟨by omega, by omega⟩
      have HS := Bx.mk (chTo_succ n k i)
      generalize chTo (n : Int) (k : Int) i = x at *
      go_wp2
      go_round
      case rel => exact ⟨i + 1, by omega, by go_num, by rw [HS.out]⟩
      case measure => simp [intOf]; omega
    · have : i = k := by omega
      subst this
      go_wp2
      go_ret
      exact ⟨ret_int HR.out.symm, rfl⟩

theorem l08c_fin : ∀ m : Fin 17, ∀ k : Fin 17, 0 ≤ l08c (m : Nat) (k : Nat) ∧ l08c (m : Nat) (k : Nat) ≤ 3000 := by decide +kernel
theorem l08c_bd (m k : Nat) (hm : m ≤ 16) (hk : k ≤ 16) : 0 ≤ l08c m k ∧ l08c m k ≤ 3000 := by
  have := l08c_fin ⟨m, by omega⟩ ⟨k, by omega⟩
  simpa using this
theorem chI_fin : ∀ m : Fin 17, ∀ k : Fin 17, 1 ≤ k → 2 * (k : Nat) ≤ m → 0 ≤ chI ((m : Nat) - (k : Nat) - 1) ((k : Nat) - 1) ∧ chI ((m : Nat) - (k : Nat) - 1) ((k : Nat) - 1) ≤ 3000 := by decide +kernel
set_option maxHeartbeats 400000 in
theorem l08Count_in (m k : Nat) (hm : m ≤ 16) (hk : k ≤ 16) (w : World) :
    Calls Try.prog 37 #[.int .i64 m, .int .i64 k] w fun e w' => e = .returned (.int .i64 (l08c m k)) ∧ w = w' := by
  by_cases h0 : k = 0
  · subst h0
    have HR : Bx (l08c (m : Int) ((0 : Nat) : Int) = 1) := ⟨by simp [l08c]⟩
    go_enter Try.func37, Try.ntmps37
    go_wp2
    go_ret
    exact ⟨ret_int HR.out.symm, rfl⟩
  · have hk0 : ((k : Int) == 0) = false := by simp; omega
    have hk1 : (1 : Int) ≤ k := by omega
    by_cases h2 : (m : Int) < 2 * k
    · have HR : Bx (l08c (m : Int) (k : Int) = 0) := ⟨by simp [l08c, h0, h2]⟩
      clear h0
      go_enter Try.func37, Try.ntmps37
      go_wp2
      go_ret
      exact ⟨ret_int HR.out.symm, rfl⟩
    · have HR : Bx (l08c (m : Int) (k : Int) = chI ((m : Int) - k - 1) ((k : Int) - 1) * m / k) := ⟨by simp [l08c, h0, h2]⟩
      have hb := chI_fin ⟨m, by omega⟩ ⟨k, by omega⟩ (by simp [Fin.le_def]; omega) (by simp; omega)
      simp only at hb
      have e1 : (m : Int) - k - 1 = ((m - k - 1 : Nat) : Int) := by omega
      have e2 : (k : Int) - 1 = ((k - 1 : Nat) : Int) := by omega
      have hmul := mul_bd _ (m : Int) 3000 16 hb ⟨by omega, by omega⟩
      have HC : Bx (∀ W, Calls Try.prog 41 #[.int .i64 ((m : Int) - k - 1), .int .i64 ((k : Int) - 1)] W fun e w' => e = .returned (.int .i64 (chI ((m : Int) - k - 1) ((k : Int) - 1))) ∧ W = w') :=
        ⟨fun W => by rw [e1, e2]; exact l08Choose_in _ _ (by omega) (by omega) W⟩
      clear h0 e1 e2
      generalize chI ((m : Int) - k - 1) ((k : Int) - 1) = x at *
      go_enter Try.func37, Try.ntmps37
      go_wp2_with (go_at_call 41; refine (HC.out _).mono ?_; rintro e w' ⟨rfl, rfl⟩)
      go_ret
      exact ⟨ret_int HR.out.symm, rfl⟩
end Go.Proofs.Ytjpdlpegcfpcdaa
