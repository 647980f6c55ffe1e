/- The most beats of a rhythm that avoids an interval: the program's count and the reference's are one number. -/
import Derived.Test.YtlgiijibekobfaaBas
namespace Go.Proofs.Ytlgiijibekobfaa
open Go.RowKit

def mostAv (n d : Int) : Int := if inB n 2 24 = true ∧ inB d 1 (n - 1) = true then gcdI n d * (n / gcdI n d / 2) else -1

theorem mostAv_yes (n d : Int) (h1 : inB n 2 24 = true) (h2 : inB d 1 (n - 1) = true) : mostAv n d = gcdI n d * (n / gcdI n d / 2) := by simp [mostAv, h1, h2]
theorem mostAv_no1 (n d : Int) (h1 : inB n 2 24 = false) : mostAv n d = -1 := by simp [mostAv, h1]
theorem mostAv_no2 (n d : Int) (h2 : inB d 1 (n - 1) = false) : mostAv n d = -1 := by simp [mostAv, h2]
theorem mostAv_bd (g n : Int) (hg : 1 ≤ g) (hn : 0 ≤ n) (hn2 : n ≤ 24) (hgn : g ≤ n) : 0 ≤ n / g ∧ n / g ≤ 24 ∧ 0 ≤ n / g / 2 ∧ n / g / 2 ≤ 12 ∧ 0 ≤ g * (n / g / 2) ∧ g * (n / g / 2) ≤ 1000 := by
  have h1 : 0 ≤ n / g := Int.ediv_nonneg hn (by omega)
  have h2 : n / g ≤ n := Int.ediv_le_self _ hn
  have h3 : 0 ≤ n / g / 2 ∧ n / g / 2 ≤ 12 := by omega
  refine ⟨h1, by omega, h3.1, h3.2, Int.mul_nonneg (by omega) h3.1, ?_⟩
  calc g * (n / g / 2) ≤ 24 * (n / g / 2) := Int.mul_le_mul_of_nonneg_right (by omega) h3.1
    _ ≤ 1000 := by omega

set_option maxHeartbeats 400000 in
theorem implMostAv_any (n d : Int) (w : World) :
    Calls Try.prog 11 #[.int .i64 n, .int .i64 d] w fun e w' => e = .returned (.int .i64 (mostAv n d)) ∧ ∃ k, w' = w.drewN k := by
  by_cases h1 : inB n 2 24 = true
  · have b1 := inB_iff.1 h1
    by_cases h2 : inB d 1 (n - 1) = true
    · have b2 := inB_iff.1 h2
      have hg := gcdI_bd n d (by omega)
      have hgl := gcdI_bdl n d (by omega)
      have hb := mostAv_bd _ n hg.2.2 (by omega) (by omega) hgl.2.1
      have HR := Lib.hid (mostAv_yes n d h1 h2)
      go_enter Try.func11, Try.ntmps11
      go_wp2_with (first | (go_at_call 55; refine (within_any _ _ _ _).mono ?_; rintro e w' ⟨rfl, rfl⟩) | (go_at_call 56; refine (gcd_any _ _ (by omega) (by omega) (by omega) (by omega) _).mono ?_; rintro e w' ⟨rfl, k, rfl⟩))
      go_ret
      exact ⟨ret_int HR.out.symm, ⟨_, rfl⟩⟩
    · rw [Bool.not_eq_true] at h2
      have HR := Lib.hid (mostAv_no2 n d h2)
      go_enter Try.func11, Try.ntmps11
      go_wp2_with (go_at_call 55; refine (within_any _ _ _ _).mono ?_; rintro e w' ⟨rfl, rfl⟩)
      go_ret
      exact ⟨ret_int HR.out.symm, ⟨0, rfl⟩⟩
  · rw [Bool.not_eq_true] at h1
    have HR := Lib.hid (mostAv_no1 n d h1)
    go_enter Try.func11, Try.ntmps11
    go_wp2_with (go_at_call 55; refine (within_any _ _ _ _).mono ?_; rintro e w' ⟨rfl, rfl⟩)
    go_ret
    exact ⟨ret_int HR.out.symm, ⟨0, rfl⟩⟩
end Go.Proofs.Ytlgiijibekobfaa
