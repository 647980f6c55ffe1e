/- How many rhythms from the first pulse on meet both conditions: plain laws. -/
import Derived.Test.YtgfdmjhdfddopaaMsT
import Derived.Test.YtgfdmjhdfddopaaTls
namespace Go.Proofs.Ytgfdmjhdfddopaa
open Go.RowKit
set_option maxRecDepth 20000

/-- how many numbers below j answer -/
def cu (P : Nat → Bool) : Nat → Nat
  | 0 => 0
  | j + 1 => (if P j = true then 1 else 0) + cu P j
theorem cu_le (P : Nat → Bool) (j : Nat) : cu P j ≤ j := by
  induction j with
  | zero => simp [cu]
  | succ j ih => simp only [cu]; split <;> omega
theorem cu_hit {P : Nat → Bool} {j : Nat} (h : P j = true) : cu P (j + 1) = 1 + cu P j := by simp [cu, h]
theorem cu_miss {P : Nat → Bool} {j : Nat} (h : P j = false) : cu P (j + 1) = cu P j := by simp [cu, h]
theorem cu_none {P : Nat → Bool} {j : Nat} (h : ∀ i, i < j → P i = false) : cu P j = 0 := by
  induction j with
  | zero => rfl
  | succ j ih => rw [cu_miss (h j (by omega)), ih fun i hi => h i (by omega)]
theorem cu_from {P Q : Nat → Bool} {a : Nat} : ∀ {b : Nat}, (∀ i, a ≤ i → i < a + b → P i = Q i) → cu P (a + b) + cu Q a = cu Q (a + b) + cu P a := by
  intro b
  induction b with
  | zero => intro _; simp; omega
  | succ b ih =>
    intro h
    have h1 := h (a + b) (by omega) (by omega)
    have h2 := ih fun i hi hi2 => h i hi (by omega)
    rw [← Nat.add_assoc]
    simp only [cu, h1]
    split <;> omega
theorem popc_top (f c : Nat) : popc (f + 1) c = popc f c + (if c.testBit f = true then 1 else 0) := by
  induction f generalizing c with
  | zero => simp only [popc, Nat.testBit_zero]; rcases Nat.mod_two_eq_zero_or_one c with h | h <;> simp [h]
  | succ f ih =>
    rw [show popc (f + 1 + 1) c = c % 2 + popc (f + 1) (c / 2) from rfl, ih (c / 2), show popc (f + 1) c = c % 2 + popc f (c / 2) from rfl, Nat.testBit_succ]
    omega
theorem bt_len {n c : Nat} (hn : n ≤ 24) (hc : c < 2 ^ n) : (bt n c).length = popc 24 c := by
  have h : ∀ k, k ≤ n → (selTo (btP n c) k).length + popc (n - k) c = popc n c := by
    intro k
    induction k with
    | zero => intro _; simp [selTo]
    | succ k ih =>
      intro hk
      have h1 := ih (by omega)
      have h2 := popc_top (n - (k + 1)) c
      rw [show n - (k + 1) + 1 = n - k by omega] at h2
      cases hb : c.testBit (n - (k + 1)) with
      | true =>
        rw [selTo_hit (by unfold btP; rw [Int.toNat_natCast, show n - 1 - k = n - (k + 1) by omega]; exact hb), List.length_append]
        rw [hb] at h2
        simp at h2 ⊢
        omega
      | false =>
        rw [selTo_miss (by unfold btP; rw [Int.toNat_natCast, show n - 1 - k = n - (k + 1) by omega]; exact hb)]
        rw [hb] at h2
        simp at h2
        omega
  have h1 := h n (Nat.le_refl _)
  rw [Nat.sub_self] at h1
  have h2 := popc_add n (24 - n) c 0 hc
  rw [Nat.mul_zero, Nat.add_zero, popc_zero, Nat.add_zero, show n + (24 - n) = 24 by omega] at h2
  unfold bt
  rw [h2, ← h1]
  rfl
/-- what the program's test wants of a code -/
def cmP (n k c : Nat) : Bool := popc 24 c == k && (hasR n (bt n c) 0 && mbI n (bt n c))
/-- what the reference's does -/
def cmQ (n k c : Nat) : Bool := (bt n c).length == k && mbI n (bt n c)
theorem has_zero {n c : Nat} (hn : 1 ≤ n) : hasR n (bt n c) 0 = c.testBit (n - 1) := by
  unfold hasR
  rw [Int.zero_emod, show (0 : Int) = ((0 : Nat) : Int) from rfl, has_bt (by omega)]; rfl
theorem cm_same {n k : Nat} (h1 : 1 ≤ n) (hn : n ≤ 24) : cu (cmP n k) (2 ^ n) + cu (cmQ n k) (2 ^ (n - 1)) = cu (cmQ n k) (2 ^ n) := by
  have e : 2 ^ n = 2 ^ (n - 1) + 2 ^ (n - 1) := by
    obtain ⟨m, rfl⟩ : ∃ m, n = m + 1 := ⟨n - 1, by omega⟩
    rw [Nat.add_sub_cancel, Nat.pow_succ]; omega
  have hz : cu (cmP n k) (2 ^ (n - 1)) = 0 := cu_none fun i hi => by
    unfold cmP
    rw [has_zero h1, Nat.testBit_lt_two_pow hi]
    simp
  have hs := @cu_from (cmP n k) (cmQ n k) (2 ^ (n - 1)) (2 ^ (n - 1)) fun i hi hi2 => by
    unfold cmP cmQ
    have hb : i.testBit (n - 1) = true := by
      have hd : i / 2 ^ (n - 1) = 1 := by
        have hp := Nat.two_pow_pos (n - 1)
        have h2 : 1 ≤ i / 2 ^ (n - 1) := (Nat.le_div_iff_mul_le hp).2 (by omega)
        have h3 : i / 2 ^ (n - 1) < 2 := (Nat.div_lt_iff_lt_mul hp).2 (by omega)
        omega
      rw [Nat.testBit_eq_decide_div_mod_eq, hd]; rfl
    rw [has_zero h1, hb, bt_len hn (by omega)]
    simp
  rw [← e, hz] at hs
  omega
def cmI (n k : Int) : Int := if inB n 1 10 = true ∧ inB k 1 n = true then (cu (cmP n.toNat k.toNat) (2 ^ n.toNat) : Nat) else -1
end Go.Proofs.Ytgfdmjhdfddopaa
