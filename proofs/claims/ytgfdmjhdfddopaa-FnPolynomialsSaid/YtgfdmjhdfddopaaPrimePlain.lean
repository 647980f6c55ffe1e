/- The least divisor from 2 on, and what is left of a number that is divided by it as often as it goes: plain laws. -/
import Derived.Test.YtgfdmjhdfddopaaDivs
namespace Go.Proofs.Ytgfdmjhdfddopaa
open Go.RowKit
set_option maxRecDepth 20000

structure IsLp (n p : Int) : Prop where
  two : 2 ≤ p
  div : n % p = 0
  le : p ≤ n
  least : ∀ q, 2 ≤ q → q < p → n % q ≠ 0
theorem IsLp.uniq {n p q : Int} (h : IsLp n p) (k : IsLp n q) : p = q := by
  rcases Int.lt_trichotomy p q with h1 | h1 | h1
  · exact absurd h.div (k.least p h.two h1)
  · exact h1
  · exact absurd k.div (h.least q k.two h1)
theorem lp_exists (n : Int) (hn : 2 ≤ n) : ∃ p, IsLp n p := by
  have key : ∀ m : Nat, (∃ p, IsLp n p) ∨ ∀ q : Int, 2 ≤ q → q < m → n % q ≠ 0 := by
    intro m
    induction m with
    | zero => exact .inr fun q h1 h2 => by omega
    | succ m ih =>
      rcases ih with h | h
      · exact .inl h
      · by_cases hm : 2 ≤ (m : Int) ∧ n % m = 0
        · refine .inl ⟨m, hm.1, hm.2, Int.le_of_dvd (by omega) (Int.dvd_of_emod_eq_zero hm.2), h⟩
        · refine .inr fun q h1 h2 => ?_
          by_cases e : q = m
          · subst e; exact fun h0 => hm ⟨h1, h0⟩
          · exact h q h1 (by omega)
  rcases key (n.toNat + 1) with h | h
  · exact h
  · exact absurd (Int.emod_self) (h n hn (by omega))
theorem divTo_one (n p : Int) (h : IsLp n p) (k : Nat) (h1 : 1 ≤ k) (hk : (k : Int) < p) : divTo n k = [1] := by
  induction k with
  | zero => omega
  | succ k ih =>
    by_cases h0 : k = 0
    · subst h0; simp [divTo]
    · rw [divTo_miss n k (h.least _ (by omega) (by omega)), ih (by omega) (by omega)]
theorem divTo_two (n p : Int) (h : IsLp n p) (k : Nat) (hk : p ≤ k) : ∃ t, divTo n k = 1 :: p :: t := by
  induction k with
  | zero => have := h.two; omega
  | succ k ih =>
    by_cases hp : p ≤ k
    · obtain ⟨t, ht⟩ := ih hp
      simp only [divTo, ht]
      exact ⟨_, rfl⟩
    · have e : (k : Int) + 1 = p := by omega
      rw [divTo_hit n k (by rw [e]; exact h.div), divTo_one n p h k (by have := h.two; omega) (by omega), e]
      exact ⟨[], rfl⟩
theorem divs_two (n p : Int) (h : IsLp n p) (hn : n ≤ 1000) : ∃ t, divs n = 1 :: p :: t := by
  have h2 := h.two; have h3 := h.le
  rw [divs, if_pos (inB_yes ⟨by omega, hn⟩)]
  exact divTo_two n p h _ (by omega)

def strip (p n : Int) : Int := if _h : 2 ≤ p ∧ 0 < n ∧ n % p = 0 then strip p (n / p) else n
termination_by n.toNat
decreasing_by
  have h1 : n / p < n := Int.ediv_lt_self_of_pos_of_ne_one _h.2.1 (by omega)
  omega
theorem strip_step {p n : Int} (hp : 2 ≤ p) (hn : 0 < n) (h : n % p = 0) : strip p n = strip p (n / p) := by rw [strip, dif_pos ⟨hp, hn, h⟩]
theorem strip_stop {p n : Int} (h : n % p ≠ 0) : strip p n = n := by rw [strip, dif_neg (fun h' => h h'.2.2)]
theorem div_pos_of {p n : Int} (hp : 2 ≤ p) (hn : 0 < n) (h : n % p = 0) : 0 < n / p ∧ n / p < n := by
  have h1 : n = p * (n / p) := by have := Int.mul_ediv_add_emod n p; omega
  refine ⟨?_, ?_⟩
  · rcases Int.lt_or_le 0 (n / p) with h2 | h2
    · exact h2
    · have : p * (n / p) ≤ 0 := Int.mul_nonpos_of_nonneg_of_nonpos (by omega) h2
      omega
  · have h0 : 0 < n / p := by
      rcases Int.lt_or_le 0 (n / p) with h2 | h2
      · exact h2
      · have : p * (n / p) ≤ 0 := Int.mul_nonpos_of_nonneg_of_nonpos (by omega) h2
        omega
    have : 2 * (n / p) ≤ p * (n / p) := Int.mul_le_mul_of_nonneg_right hp (by omega)
    omega
/-- the prime of which a number is a power; 0 if there is none -/
def primeI (n : Int) : Int := if 2 ≤ n ∧ n ≤ 1000 then (let p := (divs n)[1]?.getD 0; if 1 < strip p n then 0 else p) else 0
theorem primeI_no {n : Int} (h : inB n 2 1000 = false) : primeI n = 0 := by
  unfold primeI; rw [if_neg]; intro h'; rw [inB_yes h'] at h; cases h
theorem primeI_lp {n p : Int} (hp : IsLp n p) (hn : n ≤ 1000) : primeI n = if 1 < strip p n then 0 else p := by
  obtain ⟨t, ht⟩ := divs_two n p hp hn
  have h2 := hp.two; have h3 := hp.le
  unfold primeI; rw [if_pos ⟨by omega, hn⟩, ht]; rfl
theorem primeI_hi {n p : Int} (hp : IsLp n p) (hn : n ≤ 1000) (m : Int) (h : strip p n = m) (hm : 1 < m) : primeI n = 0 := by rw [primeI_lp hp hn, h, if_pos hm]
theorem primeI_lo {n p : Int} (hp : IsLp n p) (hn : n ≤ 1000) (m : Int) (h : strip p n = m) (hm : m ≤ 1) : primeI n = p := by rw [primeI_lp hp hn, h, if_neg (by omega)]
end Go.Proofs.Ytgfdmjhdfddopaa
