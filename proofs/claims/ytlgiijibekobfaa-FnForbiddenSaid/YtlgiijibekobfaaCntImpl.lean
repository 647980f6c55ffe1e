/- The program's count of the rhythms that avoid an interval, walked. -/
import Derived.Test.YtlgiijibekobfaaTls
import Derived.Test.YtlgiijibekobfaaBas
import Derived.Test.YtlgiijibekobfaaOnes
import Derived.Deep.DeepFit
namespace Go.Proofs.Ytlgiijibekobfaa
open Go.RowKit

def cntI (n d k : Nat) : Int := (cntTo n d k (2 ^ n) : Nat)
set_option maxHeartbeats 400000 in
theorem implCount_in (n d k : Nat) (h2 : 2 ≤ n) (h16 : n ≤ 16) (hd : 1 ≤ d) (hdn : d < n) (hk : k ≤ n) (w : World) :
    Calls Try.prog 13 #[.int .i64 n, .int .i64 d, .int .i64 k] w fun e w' => e = .returned (.int .i64 (cntI n d k)) ∧ ∃ m, w' = w.drewN m := by
  have i1 : inB n 2 16 = true := inB_yes (by omega)
  have i2 : inB d 1 ((n : Int) - 1) = true := inB_yes (by omega)
  have i3 : inB k 0 n = true := inB_yes (by omega)
  have hM := wrap_pow (n := n) (by omega)
  have hR : cntI n d k = (cntTo n d k (2 ^ n) : Nat) := rfl
  have hC : Hid (∀ c, c < 2 ^ n → c < 2 ^ n) := fun c h => h
  have hMle : 2 ^ n ≤ 65536 := Nat.pow_le_pow_right (n := 2) (by omega) h16
  have hC2 : ∃ M : Nat, wrap64 ((2 : Int) ^ n) = (M : Int) ∧ Hid (cntI n d k = (cntTo n d k M : Nat)) ∧ M ≤ 65536 ∧ Hid (M = 2 ^ n) := ⟨2 ^ n, hM, hR, hMle, rfl⟩
  clear hM hR hC hMle
  obtain ⟨M, hM, HR, hMle, HM⟩ := hC2
  go_enter Try.func13, Try.ntmps13
  go_wp2_with (go_at_call 55; refine (within_any _ _ _ _).mono ?_; rintro e w' ⟨rfl, rfl⟩)
  simp only [hM]
  clear hM i1 i2 i3
  go_loopw [7, 27] (fun v i wr => ∃ c m : Nat, c ≤ M ∧ i = .int .i64 c ∧ v = .int .i64 (cntTo n d k c : Nat) ∧ wr = w.drewN m) (fun _ i _ => M - (intOf i).toNat)
  case atStart => exact ⟨0, 0, by omega, rfl, rfl, rfl⟩
  case round =>
    obtain ⟨c, m, hc, rfl, rfl, rfl⟩ := hrel
    have hcl := cntTo_le n d k c
    by_cases hlt : c < M
    · have hci : (c : Int) < M := by omega
      have hcn : Bx (c < 2 ^ n) := ⟨by rw [← HM.out]; exact hlt⟩
      obtain ⟨p, HP, HO⟩ : ∃ p : Nat, Bx (popc 24 c = p) ∧ Bx (∀ W, Calls Try.prog 57 #[.int .u64 (c : Int)] W fun e w' => e = .returned (.int .i64 (p : Int)) ∧ W = w') :=
        ⟨popc 24 c, ⟨rfl⟩, ⟨fun W => (ones_any (c : Int) (by omega) (by omega) W)⟩⟩
      by_cases hp : p = k
      · subst hp
        by_cases ha : av n d c = true
        · have HS : Bx (cntTo n d p (c + 1) = cntTo n d p c + 1) := ⟨by simp [cntTo, HP.out, ha]⟩
          go_wp2_with (first | (go_at_call 57; refine (HO.out _).mono ?_; rintro e w' ⟨rfl, rfl⟩) | (go_at_call 58; refine (avoids_any _ _ _ (by omega) hd hdn hcn.out _).mono ?_; rintro e w' ⟨rfl, m1, rfl⟩))
          go_roundw
          case rel => exact ⟨c + 1, _, by omega, by go_num, by rw [HS.out]; go_num, rfl⟩
          case measure => simp [intOf]; omega
        · rw [Bool.not_eq_true] at ha
          have HS : Bx (cntTo n d p (c + 1) = cntTo n d p c) := ⟨by simp [cntTo, ha]⟩
          go_wp2_with (first | (go_at_call 57; refine (HO.out _).mono ?_; rintro e w' ⟨rfl, rfl⟩) | (go_at_call 58; refine (avoids_any _ _ _ (by omega) hd hdn hcn.out _).mono ?_; rintro e w' ⟨rfl, m1, rfl⟩))
          go_roundw
          case rel => exact ⟨c + 1, _, by omega, by go_num, by rw [HS.out], rfl⟩
          case measure => simp [intOf]; omega
      · have HS : Bx (cntTo n d k (c + 1) = cntTo n d k c) := ⟨by
          have := HP.out
          simp [cntTo, this, hp]⟩
        have hpb : ((p : Int) == (k : Int)) = false := by simp; omega
        clear hp
        go_wp2_with (first | (go_at_call 57; refine (HO.out _).mono ?_; rintro e w' ⟨rfl, rfl⟩) | (go_at_call 58; refine (avoids_any _ _ _ (by omega) hd hdn hcn.out _).mono ?_; rintro e w' ⟨rfl, m1, rfl⟩))
        go_roundw
        case rel => exact ⟨c + 1, _, by omega, by go_num, by rw [HS.out], rfl⟩
        case measure => simp [intOf]; omega
    · have hcm : c = M := by omega
      subst hcm
      go_wp2
      go_ret
      exact ⟨ret_int HR.out.symm, _, rfl⟩
def countI (n d k : Int) : Int := if inB n 2 16 = true ∧ inB d 1 (n - 1) = true ∧ inB k 0 n = true then cntI n.toNat d.toNat k.toNat else -1
set_option maxHeartbeats 400000 in
theorem implCount_any (n d k : Int) (w : World) :
    Calls Try.prog 13 #[.int .i64 n, .int .i64 d, .int .i64 k] w fun e w' => e = .returned (.int .i64 (countI n d k)) ∧ ∃ m, w' = w.drewN m := by
  by_cases h1 : inB n 2 16 = true
  · by_cases h2 : inB d 1 (n - 1) = true
    · by_cases h3 : inB k 0 n = true
      · have b1 := inB_iff.1 h1; have b2 := inB_iff.1 h2; have b3 := inB_iff.1 h3
        have hv : countI n d k = cntI n.toNat d.toNat k.toNat := by simp [countI, h1, h2, h3]
        rw [hv]
        obtain ⟨n', rfl⟩ := Int.eq_ofNat_of_zero_le (show 0 ≤ n by omega)
        obtain ⟨d', rfl⟩ := Int.eq_ofNat_of_zero_le (show 0 ≤ d by omega)
        obtain ⟨k', rfl⟩ := Int.eq_ofNat_of_zero_le (show 0 ≤ k by omega)
        simp only [Int.toNat_natCast]
        exact implCount_in n' d' k' (by omega) (by omega) (by omega) (by omega) (by omega) w
      · rw [Bool.not_eq_true] at h3
        have HR : Hid (countI n d k = -1) := by simp [Hid, countI, h3]
        have b1 := inB_iff.1 h1
        go_enter Try.func13, Try.ntmps13
        go_wp2_with (go_at_call 55; refine (within_any _ _ _ _).mono ?_; rintro e w' ⟨rfl, rfl⟩)
        go_ret
        exact ⟨ret_int HR.out.symm, 0, rfl⟩
    · rw [Bool.not_eq_true] at h2
      have HR : Hid (countI n d k = -1) := by simp [Hid, countI, h2]
      have b1 := inB_iff.1 h1
      go_enter Try.func13, Try.ntmps13
      go_wp2_with (go_at_call 55; refine (within_any _ _ _ _).mono ?_; rintro e w' ⟨rfl, rfl⟩)
      go_ret
      exact ⟨ret_int HR.out.symm, 0, rfl⟩
  · rw [Bool.not_eq_true] at h1
    have HR : Hid (countI n d k = -1) := by simp [Hid, countI, h1]
    go_enter Try.func13, Try.ntmps13
    go_wp2_with (go_at_call 55; refine (within_any _ _ _ _).mono ?_; rintro e w' ⟨rfl, rfl⟩)
    go_ret
    exact ⟨ret_int HR.out.symm, 0, rfl⟩
end Go.Proofs.Ytlgiijibekobfaa
