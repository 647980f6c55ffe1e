/- The value of a polynomial at a small number: the program's and the reference's are one. -/
import Derived.Test.YtgfdmjhdfddopaaPolyOk
import Derived.Test.YtgfdmjhdfddopaaL10Ok
namespace Go.Proofs.Ytgfdmjhdfddopaa
open Go.RowKit
set_option maxRecDepth 20000

/-- the value of the places from k on -/
def hornTo (x : Int) (xs : List Int) : Nat → Int
  | 0 => 0
  | m + 1 => hornTo x xs m * x + xs[xs.length - (m + 1)]?.getD 0
def hornB : Nat → Int
  | 0 => 0
  | m + 1 => 2 * hornB m + 1000
theorem hornB_mono (m : Nat) : ∀ k, hornB m ≤ hornB (m + k) ∧ 0 ≤ hornB m := by
  have h0 : ∀ j, 0 ≤ hornB j := by intro j; induction j with | zero => simp [hornB] | succ j ih => simp only [hornB]; omega
  intro k
  refine ⟨?_, h0 m⟩
  induction k with
  | zero => exact Int.le_refl _
  | succ k ih => have := h0 (m + k); show _ ≤ 2 * hornB (m + k) + 1000; omega
theorem hornB_25 (m : Nat) (h : m ≤ 25) : 0 ≤ hornB m ∧ hornB m ≤ 100000000000 := by
  obtain ⟨k, hk⟩ := Nat.le.dest h
  have h1 := hornB_mono m k
  rw [hk] at h1
  have : hornB 25 ≤ 100000000000 := by decide
  omega
theorem mul_small (h x B : Int) (hx : -2 ≤ x ∧ x ≤ 2) (h1 : -B ≤ h) (h2 : h ≤ B) : -(2 * B) ≤ h * x ∧ h * x ≤ 2 * B := by
  have : x = -2 ∨ x = -1 ∨ x = 0 ∨ x = 1 ∨ x = 2 := by omega
  rcases this with rfl | rfl | rfl | rfl | rfl <;> omega
theorem horn_bd (x : Int) (xs : List Int) (hx : -2 ≤ x ∧ x ≤ 2) (ha : ∀ y ∈ xs, -1000 ≤ y ∧ y ≤ 1000) (m : Nat) : -hornB m ≤ hornTo x xs m ∧ hornTo x xs m ≤ hornB m := by
  induction m with
  | zero => simp [hornTo, hornB]
  | succ m ih =>
    have h1 := mul_small _ x _ hx ih.1 ih.2
    have h2 : -1000 ≤ xs[xs.length - (m + 1)]?.getD 0 ∧ xs[xs.length - (m + 1)]?.getD 0 ≤ 1000 := by
      rcases h : xs[xs.length - (m + 1)]? with _ | y
      · simp
      · exact ha y (List.mem_of_getElem? h)
    simp only [hornTo, hornB]
    omega
theorem hornTo_succ (x : Int) (xs : List Int) (m : Nat) (y : Int) (hy : xs[xs.length - (m + 1)]? = some y) : hornTo x xs (m + 1) = hornTo x xs m * x + y := by simp [hornTo, hy]
def valueI (xs : List Int) (x : Int) : Int × Bool := if polyOk xs = true ∧ xs.length ≤ 25 ∧ inB x (-2) 2 = true then (hornTo x xs xs.length, true) else (0, false)
def two (p : Int × Bool) : Value := .tuple #[.int .i64 p.1, .bool p.2]
theorem ret_two {a : Int} {b : Bool} (p : Int × Bool) (h : p = (a, b)) : Ending.returned (.tuple #[.int .i64 a, .bool b]) = .returned (two p) := by rw [h]; rfl

set_option maxHeartbeats 400000 in
theorem implValueAt_any (A : Option Addr) (c : Nat) (xs : List Int) (x : Int) (w : World) (hx : IR w A xs) :
    Calls Try.prog 28 #[.slice A xs.length c, .int .i64 x] w fun e w' => e = .returned (two (valueI xs x)) ∧ Below w.heap.size w w' := by
  have hlx := hx.len
  by_cases h1 : polyOk xs = true
  · by_cases h2 : xs.length ≤ 25
    · have b2 : ¬ (25 : Int) < xs.length := by omega
      by_cases h3 : inB x (-2) 2 = true
      · have HV : Hid (valueI xs x = (hornTo x xs xs.length, true)) := by simp [Hid, valueI, h1, h2, h3]
        have b3 := inB_iff.1 h3
        have hall := (polyOk_iff.1 h1).2.1
        have HB : Hid (∀ m, -hornB m ≤ hornTo x xs m ∧ hornTo x xs m ≤ hornB m) := horn_bd x xs b3 hall
        clear hall
        obtain ⟨b3l, b3r⟩ := b3
        go_enter Try.func28, Try.ntmps28
        go_wp2_with (first | (go_at_call 52; refine (isPolynomial_any _ _ _ _ (by exact hx)).mono ?_; rintro e w1 ⟨rfl, hb1⟩) | (go_at_call 38; refine (within_any _ _ _ _).mono ?_; rintro e w' ⟨rfl, rfl⟩))
        go_loop [6, 7] (fun v i => ∃ m : Nat, m ≤ xs.length ∧ i = .int .i64 ((xs.length : Int) - 1 - m) ∧ v = .int .i64 (hornTo x xs m)) (fun _ i => (intOf i + 1).toNat)
        case atStart => exact ⟨0, by omega, by simp, rfl⟩
        case round =>
          obtain ⟨m, hm, rfl, rfl⟩ := hrel
          have hb := HB.out m
          have hb25 := hornB_25 m (by omega)
          have hmul := mul_small _ x _ ⟨b3l, b3r⟩ hb.1 hb.2
          by_cases hlt : m < xs.length
          · obtain ⟨b, o, y, rfl, hbk, c1, H1⟩ := (hx.below hb1).one (k := xs.length - (m + 1)) (by omega)
            have hy : -1000 ≤ y ∧ y ≤ 1000 := (polyOk_iff.1 h1).2.1 y (List.mem_of_getElem? H1.out)
            have e1 : (xs.length : Int) - 1 - (m : Int) = ((xs.length - (m + 1) : Nat) : Int) := by omega
            rw [e1]
            have e2 : ((xs.length - (m + 1) : Nat) : Int) < xs.length := by omega
            have hs := Lib.hid (hornTo_succ x xs m y H1.out)
            have E1 := Lib.hid e1
            clear e1
            generalize hq : xs.length - (m + 1) = q at *
            have HQ := Lib.hid hq
            clear hq
            go_wp2
            go_round
            case rel => exact ⟨m + 1, by omega, by have := HQ.out; go_num, by rw [hs.out]⟩
            case measure => simp [intOf]
          · have hmx : m = xs.length := by omega
            subst hmx
            have : ¬ (0 : Int) ≤ (xs.length : Int) - 1 - xs.length := by omega
            go_wp2
            go_ret2
            exact ⟨ret_two _ HV.out, hb1⟩
      · rw [Bool.not_eq_true] at h3
        have HV : Hid (valueI xs x = (0, false)) := by simp [Hid, valueI, h3]
        go_enter Try.func28, Try.ntmps28
        go_wp2_with (first | (go_at_call 52; refine (isPolynomial_any _ _ _ _ (by exact hx)).mono ?_; rintro e w1 ⟨rfl, hb1⟩) | (go_at_call 38; refine (within_any _ _ _ _).mono ?_; rintro e w' ⟨rfl, rfl⟩))
        go_ret2
        exact ⟨ret_two _ HV.out, hb1⟩
    · have b2 : (25 : Int) < xs.length := by omega
      have HV : Hid (valueI xs x = (0, false)) := by simp [Hid, valueI, h2]
      go_enter Try.func28, Try.ntmps28
      go_wp2_with (go_at_call 52; refine (isPolynomial_any _ _ _ _ (by exact hx)).mono ?_; rintro e w1 ⟨rfl, hb1⟩)
      go_ret2
      exact ⟨ret_two _ HV.out, hb1⟩
  · rw [Bool.not_eq_true] at h1
    have HV : Hid (valueI xs x = (0, false)) := by simp [Hid, valueI, h1]
    go_enter Try.func28, Try.ntmps28
    go_wp2_with (go_at_call 52; refine (isPolynomial_any _ _ _ _ (by exact hx)).mono ?_; rintro e w1 ⟨rfl, hb1⟩)
    go_ret2
    exact ⟨ret_two _ HV.out, hb1⟩
end Go.Proofs.Ytgfdmjhdfddopaa
