/- Words for bounds and for the greatest common divisor. -/
import Derived.Test.YtihbgpcmphemmaaBase
namespace Go.Proofs.Ytihbgpcmphemmaa
open Go.RowKit

def inB (n lo hi : Int) : Bool := decide (lo ≤ n ∧ n ≤ hi)
theorem inB_yes {n lo hi : Int} (h : lo ≤ n ∧ n ≤ hi) : inB n lo hi = true := decide_eq_true h
theorem inB_no {n lo hi : Int} (h : ¬ (lo ≤ n ∧ n ≤ hi)) : inB n lo hi = false := decide_eq_false h
theorem inB_iff {n lo hi : Int} : inB n lo hi = true ↔ lo ≤ n ∧ n ≤ hi := decide_eq_true_iff

/-- the greatest common divisor, as an int -/
def gcdI (a b : Int) : Int := (Int.gcd a b : Nat)
theorem gcdI_step (a b : Int) (ha : 0 ≤ a) (hb : 0 < b) : gcdI b (a % b) = gcdI a b := by
  obtain ⟨x, rfl⟩ := Int.eq_ofNat_of_zero_le ha
  obtain ⟨y, rfl⟩ := Int.eq_ofNat_of_zero_le (Int.le_of_lt hb)
  unfold gcdI
  rw [← Int.natCast_emod, Int.gcd_natCast_natCast, Int.gcd_natCast_natCast, Nat.gcd_comm y, ← Nat.gcd_rec y x, Nat.gcd_comm]
theorem gcdI_zero (a : Int) (ha : 0 ≤ a) : gcdI a 0 = a := by
  unfold gcdI; simp; omega
theorem gcdI_bd (a b : Int) (hb : 0 < b) : 0 ≤ gcdI a b ∧ gcdI a b ≤ b ∧ 1 ≤ gcdI a b := by
  unfold gcdI
  have h1 : 0 < Int.gcd a b := Int.gcd_pos_of_ne_zero_right _ (by omega)
  have h2 : ((Int.gcd a b : Nat) : Int) ≤ b := Int.le_of_dvd hb (Int.gcd_dvd_right _ _)
  omega
theorem gcdI_bdl (a b : Int) (ha : 0 < a) : 0 ≤ gcdI a b ∧ gcdI a b ≤ a ∧ 1 ≤ gcdI a b := by
  unfold gcdI
  have h1 : 0 < Int.gcd a b := Int.gcd_pos_of_ne_zero_left _ (by omega)
  have h2 : ((Int.gcd a b : Nat) : Int) ≤ a := Int.le_of_dvd ha (Int.gcd_dvd_left _ _)
  omega
end Go.Proofs.Ytihbgpcmphemmaa
