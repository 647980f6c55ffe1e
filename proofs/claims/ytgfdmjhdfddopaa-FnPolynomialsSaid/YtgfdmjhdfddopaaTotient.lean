/- Euler's function: the program's count and the reference's are one number. -/
import Derived.Test.YtgfdmjhdfddopaaBas
namespace Go.Proofs.Ytgfdmjhdfddopaa
open Go.RowKit
set_option maxRecDepth 20000

def totTo (n : Int) : Nat → Int
  | 0 => 0
  | k + 1 => totTo n k + (if gcdI ((k : Int) + 1) n = 1 then 1 else 0)
theorem totTo_bd (n : Int) (k : Nat) : 0 ≤ totTo n k ∧ totTo n k ≤ k := by
  induction k with
  | zero => simp [totTo]
  | succ k ih => simp only [totTo]; split <;> omega
theorem totTo_hit (n : Int) (k : Nat) (h : gcdI ((k : Int) + 1) n = 1) : totTo n (k + 1) = totTo n k + 1 := by simp [totTo, h]
theorem totTo_miss (n : Int) (k : Nat) (h : gcdI ((k : Int) + 1) n ≠ 1) : totTo n (k + 1) = totTo n k := by simp [totTo, h]
def tot (n : Int) : Int := if inB n 1 1000 = true then totTo n n.toNat else 0

set_option maxHeartbeats 400000 in
theorem implTotient_any (n : Int) (w : World) :
    Calls Try.prog 22 #[.int .i64 n] w fun e w' => e = .returned (.int .i64 (tot n)) ∧ ∃ k, w' = w.drewN k := by
  by_cases h1 : inB n 1 1000 = true
  · have b1 := inB_iff.1 h1
    obtain ⟨b1l, b1r⟩ := b1
    go_enter Try.func22, Try.ntmps22
    go_wp2_with (go_at_call 38; refine (within_any _ _ _ _).mono ?_; rintro e w' ⟨rfl, rfl⟩)
    go_loopw [3, 4] (fun v d wr => ∃ k m : Nat, (k : Int) ≤ n ∧ d = .int .i64 ((k : Int) + 1) ∧ v = .int .i64 (totTo n k) ∧ wr = w.drewN m) (fun _ d _ => (n + 1 - intOf d).toNat)
    case atStart => exact ⟨0, 0, by omega, rfl, rfl, rfl⟩
    case round =>
      obtain ⟨k, m, hk, rfl, rfl, rfl⟩ := hrel
      have ht := totTo_bd n k
      by_cases hlt : (k : Int) + 1 ≤ n
      · by_cases hd : gcdI ((k : Int) + 1) n = 1
        · have HD := Lib.hid hd
          have hdb : (gcdI ((k : Int) + 1) n == 1) = true := by simp [hd]
          clear hd
          go_wp2_with (go_at_call 51; refine (gcd_any _ _ (by omega) (by omega) (by omega) (by omega) _).mono ?_; rintro e w' ⟨rfl, m1, rfl⟩)
          go_roundw
          case rel => exact ⟨k + 1, _, by omega, by go_num, by rw [totTo_hit n k HD.out], rfl⟩
          case measure => simp [intOf]; omega
        · have HD := Lib.hid hd
          have hdb : (gcdI ((k : Int) + 1) n == 1) = false := by simp [hd]
          clear hd
          go_wp2_with (go_at_call 51; refine (gcd_any _ _ (by omega) (by omega) (by omega) (by omega) _).mono ?_; rintro e w' ⟨rfl, m1, rfl⟩)
          go_roundw
          case rel => exact ⟨k + 1, _, by omega, by go_num, by rw [totTo_miss n k HD.out], rfl⟩
          case measure => simp [intOf]; omega
      · have hkn : k = n.toNat := by omega
        have HR : Hid (tot n = totTo n k) := by simp [Hid, tot, h1, hkn]
        clear hkn
        go_wp2
        go_ret
        exact ⟨ret_int HR.out.symm, _, rfl⟩
  · rw [Bool.not_eq_true] at h1
    have HR : Hid (tot n = 0) := by simp [Hid, tot, h1]
    go_enter Try.func22, Try.ntmps22
    go_wp2_with (go_at_call 38; refine (within_any _ _ _ _).mono ?_; rintro e w' ⟨rfl, rfl⟩)
    go_ret
    exact ⟨ret_int HR.out.symm, 0, rfl⟩

set_option maxHeartbeats 400000 in
theorem specTotient_any (n : Int) (w : World) :
    Calls Try.prog 21 #[.int .i64 n] w fun e w' => e = .returned (.int .i64 (tot n)) ∧ ∃ k, w' = w.drewN k := by
  by_cases h1 : inB n 1 1000 = true
  · have b1 := inB_iff.1 h1
    obtain ⟨b1l, b1r⟩ := b1
    go_enter Try.func21, Try.ntmps21
    go_wp2_with (go_at_call 49; refine (l01In_any _ _ _ _).mono ?_; rintro e w' ⟨rfl, rfl⟩)
    go_loopw [3, 4] (fun v d wr => ∃ k m : Nat, (k : Int) ≤ n ∧ d = .int .i64 ((k : Int) + 1) ∧ v = .int .i64 (totTo n k) ∧ wr = w.drewN m) (fun _ d _ => (n + 1 - intOf d).toNat)
    case atStart => exact ⟨0, 0, by omega, rfl, rfl, rfl⟩
    case round =>
      obtain ⟨k, m, hk, rfl, rfl, rfl⟩ := hrel
      have ht := totTo_bd n k
      by_cases hlt : (k : Int) + 1 ≤ n
      · by_cases hd : gcdI ((k : Int) + 1) n = 1
        · have HD := Lib.hid hd
          have hdb : (gcdI ((k : Int) + 1) n == 1) = true := by simp [hd]
          clear hd
          go_wp2_with (go_at_call 50; refine (l02Gcd_any _ _ (by omega) (by omega) (by omega) (by omega) _).mono ?_; rintro e w' ⟨rfl, rfl⟩)
          go_roundw
          case rel => exact ⟨k + 1, _, by omega, by go_num, by rw [totTo_hit n k HD.out], rfl⟩
          case measure => simp [intOf]; omega
        · have HD := Lib.hid hd
          have hdb : (gcdI ((k : Int) + 1) n == 1) = false := by simp [hd]
          clear hd
          go_wp2_with (go_at_call 50; refine (l02Gcd_any _ _ (by omega) (by omega) (by omega) (by omega) _).mono ?_; rintro e w' ⟨rfl, rfl⟩)
          go_roundw
          case rel => exact ⟨k + 1, _, by omega, by go_num, by rw [totTo_miss n k HD.out], rfl⟩
          case measure => simp [intOf]; omega
      · have hkn : k = n.toNat := by omega
        have HR : Hid (tot n = totTo n k) := by simp [Hid, tot, h1, hkn]
        clear hkn
        go_wp2
        go_ret
        exact ⟨ret_int HR.out.symm, _, rfl⟩
  · rw [Bool.not_eq_true] at h1
    have HR : Hid (tot n = 0) := by simp [Hid, tot, h1]
    go_enter Try.func21, Try.ntmps21
    go_wp2_with (go_at_call 49; refine (l01In_any _ _ _ _).mono ?_; rintro e w' ⟨rfl, rfl⟩)
    go_ret
    exact ⟨ret_int HR.out.symm, 0, rfl⟩
end Go.Proofs.Ytgfdmjhdfddopaa
