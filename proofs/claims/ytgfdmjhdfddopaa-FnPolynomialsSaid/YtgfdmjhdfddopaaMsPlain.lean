/- The second condition: plain laws. -/
import Derived.Test.YtgfdmjhdfddopaaPp
import Derived.Test.YtgfdmjhdfddopaaBas
namespace Go.Proofs.Ytgfdmjhdfddopaa
open Go.RowKit
set_option maxRecDepth 20000

theorem isLp (n p : Nat) (h1 : 2 ≤ p) (h2 : n % p = 0) (h3 : p ≤ n) (h4 : ∀ q, q < p → 2 ≤ q → n % q ≠ 0) : IsLp (n : Int) (p : Int) := by
  refine ⟨by omega, by rw [← Int.natCast_emod, h2]; rfl, by omega, fun q k1 k2 e => ?_⟩
  obtain ⟨q', rfl⟩ := Int.eq_ofNat_of_zero_le (show 0 ≤ q by omega)
  rw [← Int.natCast_emod] at e
  exact h4 q' (by omega) (by omega) (by omega)
theorem prime2 : primeI 2 = 2 := primeI_lo (p := 2) (isLp 2 2 (by decide) (by decide) (by decide) (by decide)) (by decide) 1 (by rw [strip_step (by decide) (by decide) (by decide), show ((2 : Int) / 2) = 1 by decide]; exact strip_stop (by decide)) (by decide)
theorem prime3 : primeI 3 = 3 := primeI_lo (p := 3) (isLp 3 3 (by decide) (by decide) (by decide) (by decide)) (by decide) 1 (by rw [strip_step (by decide) (by decide) (by decide), show ((3 : Int) / 3) = 1 by decide]; exact strip_stop (by decide)) (by decide)
theorem prime4 : primeI 4 = 2 := primeI_lo (p := 2) (isLp 4 2 (by decide) (by decide) (by decide) (by decide)) (by decide) 1 (by rw [strip_step (by decide) (by decide) (by decide), show ((4 : Int) / 2) = 2 by decide]; rw [strip_step (by decide) (by decide) (by decide), show ((2 : Int) / 2) = 1 by decide]; exact strip_stop (by decide)) (by decide)
theorem prime5 : primeI 5 = 5 := primeI_lo (p := 5) (isLp 5 5 (by decide) (by decide) (by decide) (by decide)) (by decide) 1 (by rw [strip_step (by decide) (by decide) (by decide), show ((5 : Int) / 5) = 1 by decide]; exact strip_stop (by decide)) (by decide)
theorem prime6 : primeI 6 = 0 := primeI_hi (p := 2) (isLp 6 2 (by decide) (by decide) (by decide) (by decide)) (by decide) 3 (by rw [strip_step (by decide) (by decide) (by decide), show ((6 : Int) / 2) = 3 by decide]; exact strip_stop (by decide)) (by decide)
theorem prime7 : primeI 7 = 7 := primeI_lo (p := 7) (isLp 7 7 (by decide) (by decide) (by decide) (by decide)) (by decide) 1 (by rw [strip_step (by decide) (by decide) (by decide), show ((7 : Int) / 7) = 1 by decide]; exact strip_stop (by decide)) (by decide)
theorem prime8 : primeI 8 = 2 := primeI_lo (p := 2) (isLp 8 2 (by decide) (by decide) (by decide) (by decide)) (by decide) 1 (by rw [strip_step (by decide) (by decide) (by decide), show ((8 : Int) / 2) = 4 by decide]; rw [strip_step (by decide) (by decide) (by decide), show ((4 : Int) / 2) = 2 by decide]; rw [strip_step (by decide) (by decide) (by decide), show ((2 : Int) / 2) = 1 by decide]; exact strip_stop (by decide)) (by decide)
theorem prime9 : primeI 9 = 3 := primeI_lo (p := 3) (isLp 9 3 (by decide) (by decide) (by decide) (by decide)) (by decide) 1 (by rw [strip_step (by decide) (by decide) (by decide), show ((9 : Int) / 3) = 3 by decide]; rw [strip_step (by decide) (by decide) (by decide), show ((3 : Int) / 3) = 1 by decide]; exact strip_stop (by decide)) (by decide)
theorem prime10 : primeI 10 = 0 := primeI_hi (p := 2) (isLp 10 2 (by decide) (by decide) (by decide) (by decide)) (by decide) 5 (by rw [strip_step (by decide) (by decide) (by decide), show ((10 : Int) / 2) = 5 by decide]; exact strip_stop (by decide)) (by decide)
theorem prime11 : primeI 11 = 11 := primeI_lo (p := 11) (isLp 11 11 (by decide) (by decide) (by decide) (by decide)) (by decide) 1 (by rw [strip_step (by decide) (by decide) (by decide), show ((11 : Int) / 11) = 1 by decide]; exact strip_stop (by decide)) (by decide)
theorem prime12 : primeI 12 = 0 := primeI_hi (p := 2) (isLp 12 2 (by decide) (by decide) (by decide) (by decide)) (by decide) 3 (by rw [strip_step (by decide) (by decide) (by decide), show ((12 : Int) / 2) = 6 by decide]; rw [strip_step (by decide) (by decide) (by decide), show ((6 : Int) / 2) = 3 by decide]; exact strip_stop (by decide)) (by decide)
theorem prime13 : primeI 13 = 13 := primeI_lo (p := 13) (isLp 13 13 (by decide) (by decide) (by decide) (by decide)) (by decide) 1 (by rw [strip_step (by decide) (by decide) (by decide), show ((13 : Int) / 13) = 1 by decide]; exact strip_stop (by decide)) (by decide)
theorem prime14 : primeI 14 = 0 := primeI_hi (p := 2) (isLp 14 2 (by decide) (by decide) (by decide) (by decide)) (by decide) 7 (by rw [strip_step (by decide) (by decide) (by decide), show ((14 : Int) / 2) = 7 by decide]; exact strip_stop (by decide)) (by decide)
theorem prime15 : primeI 15 = 0 := primeI_hi (p := 3) (isLp 15 3 (by decide) (by decide) (by decide) (by decide)) (by decide) 5 (by rw [strip_step (by decide) (by decide) (by decide), show ((15 : Int) / 3) = 5 by decide]; exact strip_stop (by decide)) (by decide)
theorem prime16 : primeI 16 = 2 := primeI_lo (p := 2) (isLp 16 2 (by decide) (by decide) (by decide) (by decide)) (by decide) 1 (by rw [strip_step (by decide) (by decide) (by decide), show ((16 : Int) / 2) = 8 by decide]; rw [strip_step (by decide) (by decide) (by decide), show ((8 : Int) / 2) = 4 by decide]; rw [strip_step (by decide) (by decide) (by decide), show ((4 : Int) / 2) = 2 by decide]; rw [strip_step (by decide) (by decide) (by decide), show ((2 : Int) / 2) = 1 by decide]; exact strip_stop (by decide)) (by decide)
theorem prime17 : primeI 17 = 17 := primeI_lo (p := 17) (isLp 17 17 (by decide) (by decide) (by decide) (by decide)) (by decide) 1 (by rw [strip_step (by decide) (by decide) (by decide), show ((17 : Int) / 17) = 1 by decide]; exact strip_stop (by decide)) (by decide)
theorem prime18 : primeI 18 = 0 := primeI_hi (p := 2) (isLp 18 2 (by decide) (by decide) (by decide) (by decide)) (by decide) 9 (by rw [strip_step (by decide) (by decide) (by decide), show ((18 : Int) / 2) = 9 by decide]; exact strip_stop (by decide)) (by decide)
theorem prime19 : primeI 19 = 19 := primeI_lo (p := 19) (isLp 19 19 (by decide) (by decide) (by decide) (by decide)) (by decide) 1 (by rw [strip_step (by decide) (by decide) (by decide), show ((19 : Int) / 19) = 1 by decide]; exact strip_stop (by decide)) (by decide)
theorem prime20 : primeI 20 = 0 := primeI_hi (p := 2) (isLp 20 2 (by decide) (by decide) (by decide) (by decide)) (by decide) 5 (by rw [strip_step (by decide) (by decide) (by decide), show ((20 : Int) / 2) = 10 by decide]; rw [strip_step (by decide) (by decide) (by decide), show ((10 : Int) / 2) = 5 by decide]; exact strip_stop (by decide)) (by decide)
theorem prime21 : primeI 21 = 0 := primeI_hi (p := 3) (isLp 21 3 (by decide) (by decide) (by decide) (by decide)) (by decide) 7 (by rw [strip_step (by decide) (by decide) (by decide), show ((21 : Int) / 3) = 7 by decide]; exact strip_stop (by decide)) (by decide)
theorem prime22 : primeI 22 = 0 := primeI_hi (p := 2) (isLp 22 2 (by decide) (by decide) (by decide) (by decide)) (by decide) 11 (by rw [strip_step (by decide) (by decide) (by decide), show ((22 : Int) / 2) = 11 by decide]; exact strip_stop (by decide)) (by decide)
theorem prime23 : primeI 23 = 23 := primeI_lo (p := 23) (isLp 23 23 (by decide) (by decide) (by decide) (by decide)) (by decide) 1 (by rw [strip_step (by decide) (by decide) (by decide), show ((23 : Int) / 23) = 1 by decide]; exact strip_stop (by decide)) (by decide)
theorem prime24 : primeI 24 = 0 := primeI_hi (p := 2) (isLp 24 2 (by decide) (by decide) (by decide) (by decide)) (by decide) 3 (by rw [strip_step (by decide) (by decide) (by decide), show ((24 : Int) / 2) = 12 by decide]; rw [strip_step (by decide) (by decide) (by decide), show ((12 : Int) / 2) = 6 by decide]; rw [strip_step (by decide) (by decide) (by decide), show ((6 : Int) / 2) = 3 by decide]; exact strip_stop (by decide)) (by decide)
theorem prime1 : primeI 1 = 0 := primeI_no (by decide)
def pTab : List Int := [0, 0, 2, 3, 2, 5, 0, 7, 2, 3, 0, 11, 0, 13, 0, 0, 2, 17, 0, 19, 0, 0, 0, 23, 0]
theorem prime_tab (n : Nat) (h1 : 1 ≤ n) (h : n ≤ 24) : primeI n = pTab[n]?.getD 0 := by
  have : n = 1 ∨ n = 2 ∨ n = 3 ∨ n = 4 ∨ n = 5 ∨ n = 6 ∨ n = 7 ∨ n = 8 ∨ n = 9 ∨ n = 10 ∨ n = 11 ∨ n = 12 ∨ n = 13 ∨ n = 14 ∨ n = 15 ∨ n = 16 ∨ n = 17 ∨ n = 18 ∨ n = 19 ∨ n = 20 ∨ n = 21 ∨ n = 22 ∨ n = 23 ∨ n = 24 := by omega
  rcases this with rfl | rfl | rfl | rfl | rfl | rfl | rfl | rfl | rfl | rfl | rfl | rfl | rfl | rfl | rfl | rfl | rfl | rfl | rfl | rfl | rfl | rfl | rfl | rfl
  · exact prime1
  · exact prime2
  · exact prime3
  · exact prime4
  · exact prime5
  · exact prime6
  · exact prime7
  · exact prime8
  · exact prime9
  · exact prime10
  · exact prime11
  · exact prime12
  · exact prime13
  · exact prime14
  · exact prime15
  · exact prime16
  · exact prime17
  · exact prime18
  · exact prime19
  · exact prime20
  · exact prime21
  · exact prime22
  · exact prime23
  · exact prime24
def pairOk (s q : Nat) : Bool := pTab[s]?.getD 0 == 0 || pTab[q]?.getD 0 == 0 || (decide (1 < Nat.gcd s q) == (pTab[q]?.getD 0 == pTab[s]?.getD 0))
theorem pairs_ok : ((List.range 25).all fun s => s == 0 || (List.range 25).all fun q => q == 0 || pairOk s q) = true := by decide +kernel
theorem pair_gcd {s q : Nat} (hs : 1 ≤ s ∧ s ≤ 24) (hq : 1 ≤ q ∧ q ≤ 24) (h1 : primeI s ≠ 0) (h2 : primeI q ≠ 0) : decide (1 < Nat.gcd s q) = (primeI q == primeI s) := by
  have h := pairs_ok
  rw [List.all_eq_true] at h
  have h := h s (List.mem_range.2 (by omega))
  simp only [Bool.or_eq_true, beq_iff_eq, List.all_eq_true] at h
  rcases h with h | h
  · omega
  have h := h q (List.mem_range.2 (by omega))
  rcases h with h | h
  · omega
  unfold pairOk at h
  rw [prime_tab s hs.1 hs.2] at h1 ⊢
  rw [prime_tab q hq.1 hq.2] at h2 ⊢
  simp only [Bool.or_eq_true, beq_iff_eq] at h
  rcases h with (h | h) | h
  · exact absurd h h1
  · exact absurd h h2
  · exact h
/-- a power of a prime, of at most 24 -/
def PPw (s : Int) : Prop := 1 ≤ s ∧ s ≤ 24 ∧ primeI s ≠ 0
/-- the program's recursion -/
def aP (h : Int → Bool) : List Int → Int → Bool
  | [], m => h m
  | s :: r, m => aP h r m && (decide (1 < gcdI m s) || aP h r (m * s))
/-- the reference's -/
def lLoop (h : Int → Bool) : List Int → List Int → Int → Bool
  | [], _, _ => true
  | s :: r, P, m => (memB P (primeI s) || (h (m * s) && lLoop h r (P ++ [primeI s]) (m * s))) && lLoop h r P m
def InvP (P : List Int) (m : Int) : Prop := 1 ≤ m ∧ ∀ q, PPw q → memB P (primeI q) = decide (1 < gcdI m q)
theorem inv_step {P : List Int} {m s : Int} (h : InvP P m) (hs : PPw s) : InvP (P ++ [primeI s]) (m * s) := by
  obtain ⟨hm, hq⟩ := h
  obtain ⟨h1, h2, h3⟩ := hs
  have hms : 1 ≤ m * s := by
    have := Int.mul_le_mul hm h1 (by omega) (by omega)
    simpa using this
  refine ⟨hms, fun q hq' => ?_⟩
  have hq1 := hq q hq'
  obtain ⟨k1, k2, k3⟩ := hq'
  have e : memB (P ++ [primeI s]) (primeI q) = (memB P (primeI q) || (primeI q == primeI s)) := by
    rw [Bool.eq_iff_iff, Bool.or_eq_true, memB_iff, memB_iff, List.mem_append, List.mem_singleton, beq_iff_eq]
  obtain ⟨m', rfl⟩ := Int.eq_ofNat_of_zero_le (show 0 ≤ m by omega)
  obtain ⟨s', rfl⟩ := Int.eq_ofNat_of_zero_le (show 0 ≤ s by omega)
  obtain ⟨q', rfl⟩ := Int.eq_ofNat_of_zero_le (show 0 ≤ q by omega)
  have hp := pair_gcd (s := s') (q := q') (by omega) (by omega) h3 k3
  rw [e, hq1, ← hp]
  have g1 : gcdI (m' : Int) (q' : Int) = (Nat.gcd m' q' : Nat) := rfl
  have g2 : gcdI ((m' : Int) * (s' : Int)) (q' : Int) = (Nat.gcd (m' * s') q' : Nat) := rfl
  rw [g1, g2]
  rw [Bool.eq_iff_iff, Bool.or_eq_true, decide_eq_true_eq, decide_eq_true_eq, decide_eq_true_eq]
  have z1 : 0 < Nat.gcd m' q' := Nat.gcd_pos_of_pos_right _ (by omega)
  have z2 : 0 < Nat.gcd s' q' := Nat.gcd_pos_of_pos_right _ (by omega)
  have z3 : 0 < Nat.gcd (m' * s') q' := Nat.gcd_pos_of_pos_right _ (by omega)
  constructor
  · rintro (h | h)
    · have := Nat.le_of_dvd z3 (Nat.dvd_gcd (Nat.dvd_trans (Nat.gcd_dvd_left m' q') (Nat.dvd_mul_right m' s')) (Nat.gcd_dvd_right m' q'))
      omega
    · have := Nat.le_of_dvd z3 (Nat.dvd_gcd (Nat.dvd_trans (Nat.gcd_dvd_left s' q') (Nat.dvd_mul_left s' m')) (Nat.gcd_dvd_right s' q'))
      omega
  · intro h
    by_cases c1 : Nat.gcd m' q' = 1
    · by_cases c2 : Nat.gcd s' q' = 1
      · have : Nat.gcd (m' * s') q' = 1 := Nat.Coprime.mul_left c1 c2
        omega
      · right; omega
    · left; omega
theorem aP_lLoop (h : Int → Bool) : ∀ (l P : List Int) (m : Int), (∀ s ∈ l, PPw s) → InvP P m → aP h l m = (h m && lLoop h l P m) := by
  intro l
  induction l with
  | nil => intro P m _ _; simp [aP, lLoop]
  | cons s r ih =>
    intro P m hl hi
    have hs := hl s (List.mem_cons_self)
    have hr : ∀ x ∈ r, PPw x := fun x hx => hl x (List.mem_cons_of_mem _ hx)
    simp only [aP, lLoop]
    rw [ih P m hr hi, ih (P ++ [primeI s]) (m * s) hr (inv_step hi hs), hi.2 s hs]
    cases h m <;> cases decide (1 < gcdI m s) <;> cases h (m * s) <;> cases lLoop h r P m <;> cases lLoop h r (P ++ [primeI s]) (m * s) <;> rfl
theorem inv_one : InvP [] 1 := by
  refine ⟨by omega, fun q hq => ?_⟩
  obtain ⟨k1, k2, k3⟩ := hq
  obtain ⟨q', rfl⟩ := Int.eq_ofNat_of_zero_le (show 0 ≤ q by omega)
  have g1 : gcdI (1 : Int) (q' : Int) = (Nat.gcd 1 q' : Nat) := rfl
  rw [g1, Nat.gcd_one_left]
  rfl
end Go.Proofs.Ytgfdmjhdfddopaa
