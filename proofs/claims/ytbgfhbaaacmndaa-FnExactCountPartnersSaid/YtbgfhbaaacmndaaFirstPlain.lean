/- The first rhythm that avoids an interval: plain laws. -/
import Derived.Test.YtbgfhbaaacmndaaCntPlain
import Derived.Test.YtbgfhbaaacmndaaGaps
import Derived.Test.YtbgfhbaaacmndaaBas
namespace Go.Proofs.Ytbgfhbaaacmndaa
open Go.RowKit

/-- the last of the m codes from lo on that answers -/
def fd (P : Nat → Bool) (lo : Nat) : Nat → Option Nat
  | 0 => none
  | j + 1 => if P (lo + j) = true then some (lo + j) else fd P lo j
theorem fd_none {P : Nat → Bool} {lo : Nat} : ∀ {m : Nat}, (∀ j, j < m → P (lo + j) = false) → fd P lo m = none := by
  intro m
  induction m with
  | zero => intro _; rfl
  | succ m ih => intro h; simp only [fd]; rw [if_neg (by rw [h m (by omega)]; simp), ih fun j hj => h j (by omega)]
theorem fd_one {P : Nat → Bool} {lo : Nat} (h : P lo = true) : fd P lo 1 = some lo := by simp [fd, h]
theorem fd_add (P : Nat → Bool) (lo a : Nat) : ∀ b, fd P lo (a + b) = (fd P (lo + a) b).or (fd P lo a) := by
  intro b
  induction b with
  | zero => simp [fd]
  | succ b ih =>
    rw [← Nat.add_assoc]
    simp only [fd]
    rw [Nat.add_assoc lo a b]
    by_cases h : P (lo + (a + b)) = true
    · rw [if_pos h, if_pos h]; rfl
    · rw [if_neg h, if_neg h, ih]
theorem fd_congr {P Q : Nat → Bool} {lo : Nat} : ∀ {m : Nat}, (∀ j, j < m → P (lo + j) = Q (lo + j)) → fd P lo m = fd Q lo m := by
  intro m
  induction m with
  | zero => intro _; rfl
  | succ m ih => intro h; simp only [fd]; rw [h m (by omega), ih fun j hj => h j (by omega)]
theorem popc_zero : ∀ q, popc q 0 = 0 := by intro q; induction q with | zero => rfl | succ q ih => simp [popc, ih]
theorem popc_hi {m hi j : Nat} (hm : m ≤ 24) (hdv : 2 ^ m ∣ hi) (hj : j < 2 ^ m) : popc 24 (hi + j) = popc 24 hi + popc m j := by
  obtain ⟨q, rfl⟩ := hdv
  obtain ⟨g, hg⟩ : ∃ g, 24 = m + g := ⟨24 - m, by omega⟩
  have h1 := popc_add m g j q hj
  have h2 := popc_add m g 0 q (Nat.lt_of_le_of_lt (Nat.zero_le _) hj)
  rw [popc_zero, Nat.zero_add, Nat.zero_add] at h2
  rw [hg, Nat.add_comm (2 ^ m * q) j, h1, h2, Nat.add_comm]
theorem popc_bit {m hi : Nat} (hm : m < 24) (hdv : 2 ^ (m + 1) ∣ hi) : popc 24 (hi + 2 ^ m) = popc 24 hi + 1 := by
  rw [popc_hi (by omega) hdv (by rw [Nat.pow_succ]; have := Nat.two_pow_pos m; omega)]
  have h1 := popc_add m 1 0 1 (Nat.two_pow_pos m)
  rw [Nat.zero_add, Nat.mul_one, popc_zero] at h1
  rw [h1]
  simp [popc]
theorem popc_pos {m j : Nat} (h0 : 0 < j) (hj : j < 2 ^ m) : 0 < popc m j := by
  induction m generalizing j with
  | zero => simp at hj; omega
  | succ m ih =>
    simp only [popc]
    by_cases h : j % 2 = 1
    · omega
    · have := @ih (j / 2) (by omega) (by rw [Nat.pow_succ] at hj; omega)
      omega
theorem tb_add {hi m q : Nat} (hdv : 2 ^ (m + 1) ∣ hi) : (hi + 2 ^ m).testBit q = (hi.testBit q || decide (m = q)) := by
  obtain ⟨t, rfl⟩ := hdv
  have hlt : 2 ^ m < 2 ^ (m + 1) := Nat.pow_lt_pow_right (by omega) (by omega)
  rw [Nat.testBit_two_pow_mul_add _ hlt, Nat.testBit_two_pow_mul, Nat.testBit_two_pow]
  by_cases h : q < m + 1
  · rw [if_pos h]; simp [show ¬ m + 1 ≤ q by omega]
  · rw [if_neg h]; simp [show m + 1 ≤ q by omega, show ¬ m = q by omega]
theorem tb_low {hi m q : Nat} (hdv : 2 ^ m ∣ hi) (hq : q < m) : hi.testBit q = false := by
  obtain ⟨t, rfl⟩ := hdv
  rw [Nat.testBit_two_pow_mul]; simp [show ¬ m ≤ q by omega]
theorem modc {a n : Nat} (h : a < 2 * n) : a % n = if a < n then a else a - n := by
  by_cases h1 : a < n
  · rw [if_pos h1, Nat.mod_eq_of_lt h1]
  · rw [if_neg h1, Nat.mod_eq_sub_mod (by omega), Nat.mod_eq_of_lt (by omega)]
theorem av_next {n d m hi : Nat} (hd : 1 ≤ d) (hdn : d < n) (hmn : m < n) (hdv : 2 ^ (m + 1) ∣ hi) (hb : hi + 2 ^ (m + 1) ≤ 2 ^ n) (ha : av n d hi = true) :
    av n d (hi + 2 ^ m) = (!(hi.testBit ((m + d) % n)) && !(hi.testBit ((m + (n - d)) % n))) := by
  have hlt : 2 ^ m < 2 ^ (m + 1) := Nat.pow_lt_pow_right (by omega) (by omega)
  rw [av_iff (by omega) (by omega)] at ha
  rw [Bool.eq_iff_iff, av_iff (by omega) (by omega)]
  simp only [tb_add hdv, Bool.and_eq_true, Bool.not_eq_true', Bool.or_eq_true, decide_eq_true_eq]
  have e1 := @modc (m + d) n (by omega)
  have e2 := @modc (m + (n - d)) n (by omega)
  constructor
  · intro h
    constructor
    · have := h m hmn
      rcases hx : hi.testBit ((m + d) % n) with _ | _
      · rfl
      · exact absurd ⟨.inr rfl, .inl hx⟩ this
    · have hq : (m + (n - d)) % n < n := Nat.mod_lt _ (by omega)
      have := h _ hq
      rcases hx : hi.testBit ((m + (n - d)) % n) with _ | _
      · rfl
      · refine absurd ⟨.inl hx, .inr ?_⟩ this
        have e3 := @modc ((m + (n - d)) % n + d) n (by omega)
        rw [e3, e2]; split <;> split <;> omega
  · rintro ⟨h1, h2⟩ p hp ⟨h3, h4⟩
    have e3 := @modc (p + d) n (by omega)
    rcases h3 with h3 | rfl
    · rcases h4 with h4 | h4
      · exact ha p hp ⟨h3, h4⟩
      · have : (m + (n - d)) % n = p := by
          rw [e2]; rw [h4, e3]; split <;> split <;> omega
        rw [this, h3] at h2; cases h2
    · rcases h4 with h4 | h4
      · rw [h4] at h1; cases h1
      · rw [e3] at h4
        exfalso
        revert h4; split <;> intro h4 <;> omega
/-- the beats of a code -/
def btP (n c : Nat) (p : Int) : Bool := c.testBit (n - 1 - p.toNat)
def bt (n c : Nat) : List Int := selTo (btP n c) n
theorem selTo_stop {p : Int → Bool} {a : Nat} : ∀ b, (∀ i : Nat, a ≤ i → i < a + b → p (i : Int) = false) → selTo p (a + b) = selTo p a := by
  intro b
  induction b with
  | zero => intro _; rfl
  | succ b ih => intro h; rw [← Nat.add_assoc, selTo_miss (h _ (by omega) (by omega)), ih fun i h1 h2 => h i h1 (by omega)]
theorem bt_stop {n c m : Nat} (hmn : m ≤ n) (hdv : 2 ^ m ∣ c) : bt n c = selTo (btP n c) (n - m) := by
  unfold bt
  have := @selTo_stop (btP n c) (n - m) m fun i h1 h2 => tb_low hdv (by simp only [Int.toNat_natCast]; omega)
  rwa [Nat.sub_add_cancel hmn] at this
theorem bt_next {n m hi : Nat} (hmn : m < n) (hdv : 2 ^ (m + 1) ∣ hi) : bt n (hi + 2 ^ m) = bt n hi ++ [((n - (m + 1) : Nat) : Int)] := by
  have hdv' : 2 ^ m ∣ hi := Nat.dvd_trans (Nat.pow_dvd_pow 2 (by omega)) hdv
  rw [bt_stop (m := m) (by omega) ((Nat.dvd_add_right hdv').2 (Nat.dvd_refl _)), bt_stop (m := m + 1) (by omega) hdv]
  rw [show n - m = (n - (m + 1)) + 1 by omega]
  rw [selTo_hit (by unfold btP; rw [tb_add hdv, Int.toNat_natCast]; simp; right; omega)]
  congr 1
  refine selTo_congr fun i hi2 => ?_
  unfold btP
  rw [tb_add hdv, Int.toNat_natCast]
  simp; intro h; omega
theorem has_bt {n c k : Nat} (hk : k < n) : memB (bt n c) (k : Int) = c.testBit (n - 1 - k) := by
  unfold bt; rw [memB_sel hk]; unfold btP; rw [Int.toNat_natCast]
/-- the search of the reference: m pulses are left, k beats are lacking -/
def srch (n d : Nat) : Nat → List Int → Nat → Option (List Int)
  | _, S, 0 => some S
  | 0, _, _ + 1 => none
  | m + 1, S, k + 1 => if m + 1 < k + 1 then none else
      (if (!hasR n S (((n - (m + 1) : Nat) : Int) + d) && !hasR n S (((n - (m + 1) : Nat) : Int) - d)) = true then srch n d m (S ++ [((n - (m + 1) : Nat) : Int)]) k else none).or (srch n d m S (k + 1))
theorem conf_bit {n d m hi : Nat} (hd : 1 ≤ d) (hdn : d < n) (hmn : m < n) :
    (!hasR n (bt n hi) (((n - (m + 1) : Nat) : Int) + d) && !hasR n (bt n hi) (((n - (m + 1) : Nat) : Int) - d)) = (!(hi.testBit ((m + d) % n)) && !(hi.testBit ((m + (n - d)) % n))) := by
  have e1 := @modc (m + d) n (by omega)
  have e2 := @modc (m + (n - d)) n (by omega)
  have e3 := @modc (n - (m + 1) + d) n (by omega)
  have e4 := @modc (n - (m + 1) + (n - d)) n (by omega)
  have h1 : (((n - (m + 1) : Nat) : Int) + d) % (n : Int) = (((n - (m + 1) + d) % n : Nat) : Int) := by
    rw [Int.natCast_emod, Int.natCast_add]
  have h2 : (((n - (m + 1) : Nat) : Int) - d) % (n : Int) = (((n - (m + 1) + (n - d)) % n : Nat) : Int) := by
    rw [Int.natCast_emod, ← Int.add_emod_right]
    congr 1
    omega
  unfold hasR
  rw [h1, h2, has_bt (Nat.mod_lt _ (by omega)), has_bt (Nat.mod_lt _ (by omega))]
  rw [show n - 1 - (n - (m + 1) + d) % n = (m + (n - d)) % n by rw [e2, e3]; split <;> split <;> omega]
  rw [show n - 1 - (n - (m + 1) + (n - d)) % n = (m + d) % n by rw [e1, e4]; split <;> split <;> omega]
  rw [Bool.and_comm]
def fP (n d k c : Nat) : Bool := popc 24 c == k && av n d c
theorem srch_fd {n d : Nat} (hn : n ≤ 24) (hd : 1 ≤ d) (hdn : d < n) : ∀ m hi k, m ≤ n → 2 ^ m ∣ hi → hi + 2 ^ m ≤ 2 ^ n → av n d hi = true →
    srch n d m (bt n hi) k = (fd (fP n d (popc 24 hi + k)) hi (2 ^ m)).map (bt n) := by
  have zero : ∀ m hi, m ≤ n → 2 ^ m ∣ hi → hi + 2 ^ m ≤ 2 ^ n → av n d hi = true → some (bt n hi) = (fd (fP n d (popc 24 hi + 0)) hi (2 ^ m)).map (bt n) := by
    intro m hi hm hdv hb ha
    have e : 2 ^ m = 1 + (2 ^ m - 1) := by have := Nat.two_pow_pos m; omega
    rw [e, fd_add, fd_none fun j hj => ?_]
    · have : fP n d (popc 24 hi + 0) hi = true := by simp [fP, ha]
      rw [fd_one this]; rfl
    · have hp : popc 24 (hi + (1 + j)) = popc 24 hi + popc m (1 + j) := popc_hi (by omega) hdv (by omega)
      have h0 := @popc_pos m (1 + j) (by omega) (by omega)
      simp only [fP, Nat.add_assoc]
      rw [hp]
      have : (popc 24 hi + popc m (1 + j) == popc 24 hi + 0) = false := by simp; omega
      rw [this]; rfl
  intro m
  induction m with
  | zero =>
    intro hi k hm hdv hb ha
    cases k with
    | zero => exact zero 0 hi hm hdv hb ha
    | succ k =>
      have : fP n d (popc 24 hi + (k + 1)) hi = false := by simp [fP]
      simp [srch, fd, this]
  | succ m ih =>
    intro hi k hm hdv hb ha
    cases k with
    | zero => exact zero (m + 1) hi hm hdv hb ha
    | succ k =>
      simp only [srch]
      by_cases hk : m + 1 < k + 1
      · rw [if_pos hk, fd_none fun j hj => ?_]
        · rfl
        · have hp : popc 24 (hi + j) = popc 24 hi + popc (m + 1) j := popc_hi (by omega) hdv hj
          have := popc_le (m + 1) j
          simp only [fP]
          rw [hp]
          have : (popc 24 hi + popc (m + 1) j == popc 24 hi + (k + 1)) = false := by simp; omega
          rw [this]; rfl
      · rw [if_neg hk]
        have e : 2 ^ (m + 1) = 2 ^ m + 2 ^ m := by rw [Nat.pow_succ]; omega
        have hdv' : 2 ^ m ∣ hi := Nat.dvd_trans (Nat.pow_dvd_pow 2 (by omega)) hdv
        have hdv2 : 2 ^ m ∣ hi + 2 ^ m := (Nat.dvd_add_right hdv').2 (Nat.dvd_refl _)
        rw [e, fd_add, Option.map_or, ← ih hi (k + 1) (by omega) hdv' (by omega) ha, conf_bit hd hdn (by omega), ← av_next hd hdn (by omega) hdv (by omega) ha]
        congr 1
        by_cases hav : av n d (hi + 2 ^ m) = true
        · rw [if_pos hav, ← bt_next (by omega) hdv, ih (hi + 2 ^ m) k (by omega) hdv2 (by omega) hav, popc_bit (by omega) hdv]
          rw [show popc 24 hi + 1 + k = popc 24 hi + (k + 1) by omega]
        · rw [if_neg hav, fd_none fun j hj => ?_]
          · rfl
          · have : av n d (hi + 2 ^ m + j) = false := by
              rw [Bool.eq_false_iff]
              intro h2
              exact hav (av_mono (by omega) (by omega) (by omega) (fun p hp => tb_sub (m := m) (j := j) hj hdv2 hp) h2)
            simp [fP, this]
theorem av_zero (n d : Nat) : av n d 0 = true := by simp [av]
theorem bt_zero (n : Nat) : bt n 0 = [] := by
  have := @bt_stop n 0 n (Nat.le_refl _) ⟨0, by simp⟩
  rw [this, Nat.sub_self]; rfl
/-- what both hand back -/
def firstR (n d k : Nat) : Option (List Int) := (fd (fP n d k) 0 (2 ^ n)).map (bt n)
theorem srch_first {n d k : Nat} (hn : n ≤ 24) (hd : 1 ≤ d) (hdn : d < n) : srch n d n [] k = firstR n d k := by
  have := srch_fd hn hd hdn n 0 k (Nat.le_refl _) ⟨0, by simp⟩ (by omega) (av_zero n d)
  rwa [bt_zero, popc_zero, Nat.zero_add] at this
end Go.Proofs.Ytbgfhbaaacmndaa
