/- How many rhythms avoid an interval: the count over all codes is the reference's product. Plain laws. -/
import Derived.Test.YtbgfhbaaacmndaaBas
namespace Go.Proofs.Ytbgfhbaaacmndaa
open Go.RowKit

/-- the codes below m with k beats that avoid d -/
def cntTo (n d k : Nat) : Nat → Nat
  | 0 => 0
  | m + 1 => cntTo n d k m + (if popc 24 m = k ∧ av n d m = true then 1 else 0)
theorem cntTo_le (n d k m : Nat) : cntTo n d k m ≤ m := by
  induction m with
  | zero => simp [cntTo]
  | succ m ih => simp only [cntTo]; split <;> omega
/-- the same for all k at once, as digits -/
def bB : Nat := 16777216
def genR (n d hi : Nat) : Nat → Nat
  | 0 => 0
  | m + 1 => genR n d hi m + (if av n d (hi + m) = true then bB ^ popc 24 m else 0)
def digs (f : Nat → Nat) : Nat → Nat
  | 0 => 0
  | K + 1 => digs f K + f K * bB ^ K
theorem digs_add (f g : Nat → Nat) (K : Nat) : digs (fun k => f k + g k) K = digs f K + digs g K := by
  induction K with
  | zero => rfl
  | succ K ih => simp only [digs, ih, Nat.add_mul]; omega
theorem digs_one (j K : Nat) : digs (fun k => if j = k then 1 else 0) K = if j < K then bB ^ j else 0 := by
  induction K with
  | zero => simp [digs]
  | succ K ih =>
    simp only [digs, ih]
    by_cases h : j = K
    · subst h; simp
    · by_cases h2 : j < K
      · simp [h, h2, show j < K + 1 by omega]
      · simp [h, h2, show ¬ j < K + 1 by omega]
theorem digs_zero (K : Nat) : digs (fun _ => 0) K = 0 := by
  induction K with
  | zero => rfl
  | succ K ih => simp [digs, ih]
theorem digs_congr {f g : Nat → Nat} (h : ∀ k, f k = g k) (K : Nat) : digs f K = digs g K := by rw [funext h]
theorem gen_digs (n d m K : Nat) (hK : 24 < K) : genR n d 0 m = digs (fun k => cntTo n d k m) K := by
  induction m with
  | zero => exact (digs_zero K).symm
  | succ m ih =>
    simp only [genR, cntTo, Nat.zero_add]
    rw [digs_add, ih]
    by_cases h : av n d m = true
    · have e : digs (fun k => if popc 24 m = k ∧ av n d m = true then 1 else 0) K = digs (fun k => if popc 24 m = k then 1 else 0) K := digs_congr (fun k => by simp [h]) K
      rw [if_pos h, e, digs_one, if_pos (by have := popc_le 24 m; omega)]
    · have e : digs (fun k => if popc 24 m = k ∧ av n d m = true then 1 else 0) K = digs (fun _ => 0) K := digs_congr (fun k => by simp [h]) K
      rw [if_neg h, e, digs_zero]
theorem digs_lt (f : Nat → Nat) (hf : ∀ k, f k < bB) (K : Nat) : digs f K < bB ^ K := by
  induction K with
  | zero => simp [digs]
  | succ K ih =>
    simp only [digs, Nat.pow_succ]
    have h1 : f K * bB ^ K ≤ (bB - 1) * bB ^ K := Nat.mul_le_mul_right _ (by have := hf K; omega)
    have h2 : (bB - 1) * bB ^ K + bB ^ K = bB ^ K * bB := by
      rw [← Nat.succ_mul, Nat.mul_comm]; rfl
    omega
theorem digs_inj (f g : Nat → Nat) (hf : ∀ k, f k < bB) (hg : ∀ k, g k < bB) (K : Nat) (h : digs f K = digs g K) : ∀ k, k < K → f k = g k := by
  induction K with
  | zero => intro k hk; omega
  | succ K ih =>
    simp only [digs] at h
    have h1 := digs_lt f hf K
    have h2 := digs_lt g hg K
    have e1 := Nat.div_eq_of_lt h1
    have e2 := Nat.div_eq_of_lt h2
    have hp : 0 < bB ^ K := Nat.pow_pos (by decide)
    have hk : f K = g K := by
      have := congrArg (fun x => x / bB ^ K) h
      rw [Nat.add_mul_div_right _ _ hp, Nat.add_mul_div_right _ _ hp, e1, e2] at this
      omega
    rw [hk] at h
    intro k hkK
    by_cases e : k = K
    · subst e; exact hk
    · exact ih (by omega) k (by omega)
/-- the count by a tree that leaves out what cannot be avoided any more -/
def dfs (n d : Nat) : Nat → Nat → Nat
  | 0, hi => if av n d hi = true then 1 else 0
  | m + 1, hi => if av n d hi = true then dfs n d m hi + bB * dfs n d m (hi + 2 ^ m) else 0
theorem genR_add (n d hi a : Nat) : ∀ m, a + m ≤ 2 ^ 24 → ∀ j, a = 2 ^ j → m ≤ 2 ^ j → j < 24 → genR n d hi (a + m) = genR n d hi a + bB * genR n d (hi + a) m := by
  intro m
  induction m with
  | zero => intro _ j _ _ _; simp [genR]
  | succ m ih =>
    intro h j hj hm hj24
    rw [← Nat.add_assoc]
    simp only [genR]
    rw [ih (by omega) j hj (by omega) hj24, ← Nat.add_assoc hi a m, Nat.mul_add]
    have hp : popc 24 (a + m) = popc 24 m + 1 := by
      have e : m = m % 2 ^ j + 2 ^ j * 0 := by rw [Nat.mod_eq_of_lt (by omega)]; simp
      have e2 : a + m = m + 2 ^ j * 1 := by rw [hj]; omega
      obtain ⟨t, ht⟩ : ∃ t, 24 = j + (t + 1) := ⟨23 - j, by omega⟩
      rw [ht, e2, popc_add j (t + 1) m 1 (by omega)]
      have e3 : popc (j + (t + 1)) m = popc j m + popc (t + 1) 0 := by
        have := popc_add j (t + 1) m 0 (by omega)
        rwa [Nat.mul_zero, Nat.add_zero] at this
      rw [e3]
      have z : ∀ q, popc q 0 = 0 := by intro q; induction q with | zero => rfl | succ q ih => simp [popc, ih]
      simp [popc, z]
    split
    · rw [hp, Nat.pow_succ, Nat.mul_comm (bB ^ popc 24 m) bB]; omega
    · omega
theorem tb_sub {hi m j p : Nat} (hm : j < 2 ^ m) (hd : 2 ^ m ∣ hi) (h : hi.testBit p = true) : (hi + j).testBit p = true := by
  obtain ⟨q, rfl⟩ := hd
  rw [Nat.testBit_two_pow_mul_add _ hm]
  rw [Nat.testBit_two_pow_mul] at h
  simp only [Bool.and_eq_true, decide_eq_true_eq] at h
  rw [if_neg (by omega)]
  exact h.2
theorem gen_zero {n d m hi : Nat} (hdn : d ≤ n) (hdv : 2 ^ m ∣ hi) (hb : hi + 2 ^ m ≤ 2 ^ n) (h : ¬ av n d hi = true) : ∀ k, k ≤ 2 ^ m → genR n d hi k = 0 := by
  intro k
  induction k with
  | zero => intro _; rfl
  | succ k ih =>
    intro hk
    simp only [genR]
    rw [ih (by omega), if_neg]
    intro h2
    exact h (av_mono hdn (by omega) (by omega) (fun p hp => tb_sub (m := m) (j := k) (by omega) hdv hp) h2)
theorem dfs_gen {n d : Nat} (hn : n ≤ 24) (hdn : d ≤ n) (m : Nat) : ∀ hi, m ≤ n → 2 ^ m ∣ hi → hi + 2 ^ m ≤ 2 ^ n → dfs n d m hi = genR n d hi (2 ^ m) := by
  induction m with
  | zero => intro hi _ _ _
            have z : ∀ q, popc q 0 = 0 := by intro q; induction q with | zero => rfl | succ q ih => simp [popc, ih]
            simp [dfs, genR, z]
  | succ m ih =>
    intro hi hmn hdv hb
    have e : 2 ^ (m + 1) = 2 ^ m + 2 ^ m := by rw [Nat.pow_succ]; omega
    have hdv' : 2 ^ m ∣ hi := Nat.dvd_trans (Nat.pow_dvd_pow 2 (by omega)) hdv
    by_cases h : av n d hi = true
    · simp only [dfs, if_pos h]
      have hle : 2 ^ (m + 1) ≤ 2 ^ 24 := Nat.pow_le_pow_right (by omega) (by omega)
      rw [ih hi (by omega) hdv' (by omega), ih (hi + 2 ^ m) (by omega) ((Nat.dvd_add_right hdv').2 (Nat.dvd_refl _)) (by omega), e,
        genR_add n d hi (2 ^ m) (2 ^ m) (by omega) m rfl (Nat.le_refl _) (by omega)]
    · simp only [dfs, if_neg h]
      exact (gen_zero hdn hdv hb h _ (Nat.le_refl _)).symm

/-! the reference's numbers -/
def chTo (n k : Int) : Nat → Int
  | 0 => 1
  | i + 1 => (chTo n k i * (n - k + ((i : Int) + 1))) / ((i : Int) + 1)
def chI (n k : Int) : Int := if k < 0 ∨ n < k then 0 else chTo n k k.toNat
def l08c (m k : Int) : Int := if k = 0 then 1 else if m < 2 * k then 0 else chI (m - k - 1) (k - 1) * m / k
/-- one place of the product raised -/
def bump (l : List Int) (i : Nat) (x : Int) : List Int := l.set i (wrap64 (l[i]?.getD 0 + wrap64 x))
/-- the inner loop: the places a, a + 1, .. are raised, b of them -/
def inTo (m : Int) (a : Nat) (v : Int) (next : List Int) : Nat → List Int
  | 0 => next
  | b + 1 => bump (inTo m a v next b) (a + b) (v * l08c m b)
/-- the middle loop: the first a places are through -/
def midTo (m : Int) (k : Nat) (ways : List Int) : Nat → List Int
  | 0 => List.replicate (k + 1) 0
  | a + 1 => inTo m a (ways[a]?.getD 0) (midTo m k ways a) (k + 1 - a)
def waysTo (m : Int) (k : Nat) : Nat → List Int
  | 0 => (List.replicate (k + 1) 0).set 0 1
  | i + 1 => midTo m k (waysTo m k i) (k + 1)
def refG (n g k : Nat) : Int := (waysTo ((n : Int) / (g : Int)) k g)[k]?.getD 0
def refNG (n g k : Nat) : Nat := if k ≤ n then (refG n g k).toNat else 0
def checkG (n g : Nat) : Bool := (List.range (n + 1)).all fun k => decide (0 ≤ refG n g k) && decide (refG n g k < 16777216)
def checkV (n g v : Nat) : Bool := (List.range n).all fun d => d == 0 || !(Nat.gcd n d == g) || dfs n d n 0 == v
def forceV (n g : Nat) : Nat → Bool
  | 0 => false
  | v + 1 => checkV n g (v + 1)
theorem forceV_open {n g : Nat} : ∀ {v : Nat}, forceV n g v = true → checkV n g v = true
  | 0, h => by cases h
  | _ + 1, h => h
def top (n g : Nat) : Nat := digs (refNG n g) 25
def checkAt (n g : Nat) : Bool := g == 0 || !(n % g == 0) || (checkG n g && forceV n g (top n g))
def checkN (n : Nat) : Bool := (List.range (n / 2 + 1)).all (checkAt n)
end Go.Proofs.Ytbgfhbaaacmndaa
