/- Whether a list is a polynomial: the reference's test. -/
import Derived.Test.YtmgemafkaddfjaaPolyOk
namespace Go.Proofs.Ytmgemafkaddfjaa
open Go.RowKit

set_option maxHeartbeats 400000 in
theorem l10Ok_any (A : Option Addr) (c : Nat) (xs : List Int) (w : World) (hx : IR w A xs) :
    Calls Try.prog 67 #[.slice A xs.length c] w fun e w' => e = .returned (.bool (polyOk xs)) ∧ w = w' := by
  have hlx := hx.len
  by_cases h1 : xs.length ≤ 40
  · have b1 : ¬ (40 : Int) < (xs.length : Int) := by omega
    by_cases h0 : xs.length = 0
    · have HR := Lib.hid (polyOk_nil h0)
      have e : xs = [] := List.eq_nil_of_length_eq_zero h0
      subst e
      go_enter Try.func67, Try.ntmps67
      go_wp2
      go_loop [24] (fun i => i = .int .i64 0) (fun i => (intOf i).toNat)
      case atStart => rfl
      case round =>
        subst hrel
        go_wp2
        go_ret
        exact ⟨ret_bool HR.out.symm, rfl⟩
    · obtain ⟨b, o, x, rfl, hb, c1, H1⟩ := hx.one (k := xs.length - 1) (by omega)
      have hp : 0 < xs.length := by omega
      have hpi : (0 : Int) < xs.length := by omega
      clear h0
      have hl : lastI xs = x := by simp [lastI, H1.out]
      have hn : ((xs.length : Int) - 1).toNat = xs.length - 1 := by omega
      by_cases h3 : x = 0
      · have HR := Lib.hid (polyOk_last hp (hl.trans h3))
        have HL := Lib.hid hl
        subst h3
        clear hl
        go_enter Try.func67, Try.ntmps67
        go_wp2
        go_ret
        exact ⟨ret_bool HR.out.symm, rfl⟩
      · have HY : Hid (allIn xs (-1000) 1000 = true → polyOk xs = true) := fun h2 => polyOk_yes h1 h2 (hl ▸ h3)
        have hb3 : (x == 0) = false := by simpa using h3
        clear hl h3
        go_enter Try.func67, Try.ntmps67
        go_wp2
        clear hb3 c1
        go_loop [24] (fun i => ∃ k : Nat, k ≤ xs.length ∧ i = .int .i64 k ∧ allIn (xs.take k) (-1000) 1000 = true) (fun i => xs.length - (intOf i).toNat)
        case atStart => exact ⟨0, by omega, rfl, rfl⟩
        case round =>
          obtain ⟨k, hk, rfl, ha⟩ := hrel
          have HA := Lib.hid ha
          clear ha
          by_cases hlt : k < xs.length
          · obtain ⟨b', o', y, e', _, c1, H1⟩ := hx.one hlt
            injection e' with e'
            injection e' with e1 e2
            subst e1 e2
            have hkl : (k : Int) < xs.length := by omega
            by_cases hi' : inB y (-1000) 1000 = true
            · have HI := Lib.hid hi'
              go_wp2_with (go_at_call 56; refine (l01In_any _ _ _ _).mono ?_; rintro e w' ⟨rfl, rfl⟩)
              go_round
              case rel => exact ⟨k + 1, by omega, by go_num, allIn_take_succ HA.out H1.out HI.out⟩
              case measure => simp [intOf]; omega
            · rw [Bool.not_eq_true] at hi'
              have HI := Lib.hid hi'
              go_wp2_with (go_at_call 56; refine (l01In_any _ _ _ _).mono ?_; rintro e w' ⟨rfl, rfl⟩)
              go_ret
              exact ⟨ret_bool (polyOk_all (allIn_of_not H1.out HI.out)).symm, rfl⟩
          · go_wp2
            go_ret
            exact ⟨ret_bool (HY.out (by have := HA.out; rw [List.take_of_length_le (by omega)] at this; exact this)).symm, rfl⟩
  · have b1 : (40 : Int) < (xs.length : Int) := by omega
    have HR := Lib.hid (polyOk_len h1)
    go_enter Try.func67, Try.ntmps67
    go_wp2
    go_ret
    exact ⟨ret_bool HR.out.symm, rfl⟩
end Go.Proofs.Ytmgemafkaddfjaa
