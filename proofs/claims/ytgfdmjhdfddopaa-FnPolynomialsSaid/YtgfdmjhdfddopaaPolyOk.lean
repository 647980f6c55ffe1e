/- Whether a list is a polynomial: the program's test and the reference's are one. -/
import Derived.Test.YtgfdmjhdfddopaaAllWithin
import Derived.Test.YtgfdmjhdfddopaaBas
namespace Go.Proofs.Ytgfdmjhdfddopaa
open Go.RowKit
set_option maxRecDepth 20000

def lastI (xs : List Int) : Int := xs[xs.length - 1]?.getD 0
def polyOk (xs : List Int) : Bool := decide (xs.length ≤ 40) && allIn xs (-1000) 1000 && (decide (xs.length = 0) || decide (lastI xs ≠ 0))
theorem polyOk_len {xs : List Int} (h : ¬ xs.length ≤ 40) : polyOk xs = false := by simp [polyOk, h]
theorem polyOk_all {xs : List Int} (h : allIn xs (-1000) 1000 = false) : polyOk xs = false := by simp [polyOk, h]
theorem polyOk_nil {xs : List Int} (h : xs.length = 0) : polyOk xs = true := by
  have : xs = [] := List.eq_nil_of_length_eq_zero h
  subst this; rfl
theorem polyOk_last {xs : List Int} (h : 0 < xs.length) (h0 : lastI xs = 0) : polyOk xs = false := by
  simp only [polyOk, h0]; simp; intro _ _ h2; subst h2; simp at h
theorem polyOk_yes {xs : List Int} (h1 : xs.length ≤ 40) (h2 : allIn xs (-1000) 1000 = true) (h0 : lastI xs ≠ 0) : polyOk xs = true := by simp [polyOk, h1, h2, h0]
theorem polyOk_iff {xs : List Int} : polyOk xs = true ↔ xs.length ≤ 40 ∧ (∀ x ∈ xs, -1000 ≤ x ∧ x ≤ 1000) ∧ (xs = [] ∨ lastI xs ≠ 0) := by
  simp [polyOk, allIn_iff, and_assoc]

set_option maxHeartbeats 400000 in
theorem isPolynomial_any (A : Option Addr) (c : Nat) (xs : List Int) (w : World) (hx : IR w A xs) :
    Calls Try.prog 52 #[.slice A xs.length c] w fun e w' => e = .returned (.bool (polyOk xs)) ∧ Below w.heap.size w w' := by
  have hlx := hx.len
  by_cases h1 : xs.length ≤ 40
  · have b1 : (xs.length : Int) ≤ 40 := by omega
    by_cases h2 : allIn xs (-1000) 1000 = true
    · by_cases h0 : xs.length = 0
      · have HR := Lib.hid (polyOk_nil h0)
        have e : xs = [] := List.eq_nil_of_length_eq_zero h0
        subst e
        go_enter Try.func52, Try.ntmps52
        go_wp2_with (go_at_call 70; refine (allWithin_any _ _ [] _ _ _ (by exact hx)).mono ?_; rintro e w1 ⟨rfl, hb1⟩)
        go_ret
        exact ⟨ret_bool (by simp [HR.out]), hb1⟩
      · have hb0 : ((xs.length : Int) == 0) = false := by simp; exact fun h => h0 (by simp [h])
        obtain ⟨b, o, x, rfl, hb, c1, H1⟩ := hx.one (k := xs.length - 1) (by omega)
        have hp : 0 < xs.length := by omega
        have hpi : (0 : Int) < xs.length := by omega
        clear h0
        have hl : lastI xs = x := by simp [lastI, H1.out]
        have hn : ((xs.length : Int) - 1).toNat = xs.length - 1 := by omega
        by_cases h3 : x = 0
        · have HR := Lib.hid (polyOk_last hp (hl.trans h3))
          have HL := Lib.hid hl
          subst h3
          clear hl
          go_enter Try.func52, Try.ntmps52
          go_wp2_with (go_at_call 70; refine (allWithin_any _ _ _ _ _ _ (by exact hx)).mono ?_; rintro e w1 ⟨rfl, hb1⟩; have c2 := ((bcell hb1).1 _ _ hb).trans c1)
          go_ret
          exact ⟨ret_bool (by simp [HR.out]), hb1⟩
        · have HR := Lib.hid (polyOk_yes h1 h2 (hl ▸ h3))
          have hb3 : (x != 0) = true := by simpa using h3
          clear hl h3
          go_enter Try.func52, Try.ntmps52
          go_wp2_with (go_at_call 70; refine (allWithin_any _ _ _ _ _ _ (by exact hx)).mono ?_; rintro e w1 ⟨rfl, hb1⟩; have c2 := ((bcell hb1).1 _ _ hb).trans c1)
          go_ret
          exact ⟨ret_bool (by simp [HR.out]), hb1⟩
    · rw [Bool.not_eq_true] at h2
      have HR := Lib.hid (polyOk_all h2)
      go_enter Try.func52, Try.ntmps52
      go_wp2_with (go_at_call 70; refine (allWithin_any _ _ _ _ _ _ (by exact hx)).mono ?_; rintro e w1 ⟨rfl, hb1⟩)
      go_ret
      exact ⟨ret_bool (by simp [HR.out]), hb1⟩
  · have b1 : ¬ (xs.length : Int) ≤ 40 := by omega
    have HR := Lib.hid (polyOk_len h1)
    go_enter Try.func52, Try.ntmps52
    go_wp2
    go_ret
    exact ⟨ret_bool (by simp [HR.out]), Below.refl _ _⟩
end Go.Proofs.Ytgfdmjhdfddopaa
