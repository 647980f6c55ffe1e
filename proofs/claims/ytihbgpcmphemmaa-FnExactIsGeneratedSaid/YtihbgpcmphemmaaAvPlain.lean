/- When the code of a rhythm avoids a difference: plain laws on bits. -/
import Derived.Test.YtihbgpcmphemmaaOnesPlain
namespace Go.Proofs.Ytihbgpcmphemmaa
open Go.RowKit

/-- no two beats of the code c of n pulses are d pulses apart -/
def av (n d c : Nat) : Bool := (c &&& ((c / 2 ^ d) ||| ((c * 2 ^ (n - d)) &&& (2 ^ n - 1)))) == 0
theorem tb_mul (c i p : Nat) : (c * 2 ^ i).testBit p = (decide (i ≤ p) && c.testBit (p - i)) := by
  rw [← Nat.shiftLeft_eq, Nat.testBit_shiftLeft]
theorem av_iff {n d c : Nat} (hd : d ≤ n) (hc : c < 2 ^ n) : av n d c = true ↔ ∀ p, p < n → ¬ (c.testBit p = true ∧ c.testBit ((p + d) % n) = true) := by
  have hz : av n d c = true ↔ ∀ p, (c &&& ((c / 2 ^ d) ||| ((c * 2 ^ (n - d)) &&& (2 ^ n - 1)))).testBit p = false := by
    unfold av
    rw [beq_iff_eq]
    constructor
    · intro h p; rw [h]; exact Nat.zero_testBit p
    · intro h; exact Nat.eq_of_testBit_eq fun p => by rw [h p, Nat.zero_testBit]
  have hbig : ∀ q, n ≤ q → c.testBit q = false := fun q hq => Nat.testBit_lt_two_pow (Nat.lt_of_lt_of_le hc (Nat.pow_le_pow_right (by omega) hq))
  rw [hz]
  have one : ∀ p, (c &&& ((c / 2 ^ d) ||| ((c * 2 ^ (n - d)) &&& (2 ^ n - 1)))).testBit p = (c.testBit p && (c.testBit (p + d) || (decide (n - d ≤ p) && c.testBit (p - (n - d)) && decide (p < n)))) := by
    intro p
    rw [Nat.testBit_and, Nat.testBit_or, Nat.testBit_and, tb_mul, Nat.testBit_two_pow_sub_one, Nat.testBit_div_two_pow]
  constructor
  · intro h p hp ⟨h1, h2⟩
    have := h p
    rw [one, h1, Bool.true_and] at this
    by_cases hw : p + d < n
    · rw [Nat.mod_eq_of_lt hw] at h2; rw [h2] at this; simp at this
    · by_cases hdn : p + d - n < n
      · have : (p + d) % n = p + d - n := by rw [Nat.mod_eq_sub_mod (by omega), Nat.mod_eq_of_lt hdn]
        rw [this] at h2
        have e : p - (n - d) = p + d - n := by omega
        have h3 := h p
        rw [one, h1, e, h2] at h3
        simp [show n - d ≤ p by omega, hp] at h3
      · omega
  · intro h p
    rw [one]
    by_cases hp : p < n
    · have h1 := h p hp
      rcases hb : c.testBit p with _ | _
      · simp
      · rw [hb] at h1
        have h2 : c.testBit ((p + d) % n) = false := by simpa using h1
        by_cases hw : p + d < n
        · rw [Nat.mod_eq_of_lt hw] at h2
          rw [h2]
          simp [show ¬ (n - d ≤ p) by omega]
        · by_cases hdn : p + d - n < n
          · have e1 : (p + d) % n = p + d - n := by rw [Nat.mod_eq_sub_mod (by omega), Nat.mod_eq_of_lt hdn]
            have e : p - (n - d) = p + d - n := by omega
            rw [e1] at h2
            rw [e, h2, hbig (p + d) (by omega)]
            simp
          · omega
    · rw [hbig p (by omega)]; simp
/-- what holds a code that does not avoid d does not avoid it either -/
theorem av_mono {n d c c' : Nat} (hd : d ≤ n) (hc : c < 2 ^ n) (hc' : c' < 2 ^ n) (hsub : ∀ p, c.testBit p = true → c'.testBit p = true) (h : av n d c' = true) : av n d c = true := by
  rw [av_iff hd hc]
  rw [av_iff hd hc'] at h
  exact fun p hp hh => h p hp ⟨hsub _ hh.1, hsub _ hh.2⟩
end Go.Proofs.Ytihbgpcmphemmaa
