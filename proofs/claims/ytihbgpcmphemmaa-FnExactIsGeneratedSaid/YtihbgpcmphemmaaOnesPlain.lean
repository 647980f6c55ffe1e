/- The number of bits of a number below 2^24, by the sums of the library: plain laws. -/
import Derived.Test.YtihbgpcmphemmaaNum
import Derived.Laws.BitsAllLaws
import Derived.Laws.BitsLemmas
namespace Go.Proofs.Ytihbgpcmphemmaa
open Go.RowKit

/-- how many of the lowest f bits are set -/
def popc : Nat → Nat → Nat
  | 0, _ => 0
  | f + 1, n => n % 2 + popc f (n / 2)
theorem popc_add (f g : Nat) : ∀ a y : Nat, a < 2 ^ f → popc (f + g) (a + 2 ^ f * y) = popc f a + popc g y := by
  induction f with
  | zero => intro a y h; have : a = 0 := by simpa using h
            subst this; simp [popc]
  | succ f ih =>
    intro a y h
    rw [show f + 1 + g = (f + g) + 1 by omega]
    simp only [popc]
    have e1 : (a + 2 ^ (f + 1) * y) % 2 = a % 2 := by rw [Nat.pow_succ, Nat.mul_comm (2 ^ f) 2, Nat.mul_assoc]; omega
    have e2 : (a + 2 ^ (f + 1) * y) / 2 = a / 2 + 2 ^ f * y := by rw [Nat.pow_succ, Nat.mul_comm (2 ^ f) 2, Nat.mul_assoc]; omega
    rw [e1, e2, ih (a / 2) y (by rw [Nat.pow_succ] at h; omega)]
    omega
theorem popc_le (f : Nat) : ∀ n, popc f n ≤ f := by induction f with | zero => intro n; simp [popc] | succ f ih => intro n; simp only [popc]; have := ih (n / 2); omega

/-- the sums of the library, a step each -/
def ps1 (x : Nat) : Nat := ((x / 2) &&& 6148914691236517205) + (x &&& 6148914691236517205)
def ps2 (x : Nat) : Nat := ((x / 4) &&& 3689348814741910323) + (x &&& 3689348814741910323)
def ps3 (x : Nat) : Nat := (x / 16 + x) &&& 1085102592571150095
theorem and_byte (u v : Nat) : u &&& v = ((u % 256) &&& (v % 256)) + 256 * ((u / 256) &&& (v / 256)) := by
  have h1 : (u &&& v) % 2 ^ 8 = (u % 2 ^ 8) &&& (v % 2 ^ 8) := Nat.and_mod_two_pow
  have h2 : (u &&& v) / 2 ^ 8 = (u / 2 ^ 8) &&& (v / 2 ^ 8) := Nat.and_div_two_pow
  have h3 := Nat.mod_add_div (u &&& v) 256
  simp only [show (2 : Nat) ^ 8 = 256 from rfl] at h1 h2
  rw [h1, h2] at h3
  exact h3.symm
theorem and_small (u v : Nat) (h : u < 256) : u &&& v = u &&& (v % 256) := by
  have h3 := and_byte u v
  rw [Nat.mod_eq_of_lt h, show u / 256 = 0 by omega, Nat.zero_and] at h3
  omega
def b1 (a : Nat) : Nat := ((a / 2) &&& 85) + (a &&& 85)
def b2 (a : Nat) : Nat := ((a / 4) &&& 51) + (a &&& 51)
def b3 (a : Nat) : Nat := (a / 16 + a) % 16
theorem b_all : ∀ a : Fin 256, b1 a < 256 ∧ b1 a % 4 ≤ 2 ∧ b2 (b1 a) < 72 ∧ b2 (b1 a) % 16 ≤ 4 ∧ b3 (b2 (b1 a)) = popc 8 a := by decide +kernel
theorem t_85 : ∀ a : Fin 256, ∀ t : Fin 2, ((a : Nat) / 2 + 128 * t) &&& 85 = ((a : Nat) / 2) &&& 85 := by decide +kernel
theorem t_51 : ∀ a : Fin 256, ∀ t : Fin 4, ((a : Nat) / 4 + 64 * t) &&& 51 = ((a : Nat) / 4) &&& 51 := by decide +kernel
theorem step1 (a y m : Nat) (ha : a < 256) : (((a + 256 * y) / 2) &&& (85 + 256 * m)) + ((a + 256 * y) &&& (85 + 256 * m)) = b1 a + 256 * (((y / 2) &&& m) + (y &&& m)) := by
  rw [and_byte ((a + 256 * y) / 2), and_byte (a + 256 * y)]
  have e1 : (a + 256 * y) / 2 % 256 = a / 2 + 128 * (y % 2) := by omega
  have e2 : (a + 256 * y) / 2 / 256 = y / 2 := by omega
  have e3 : (85 + 256 * m) % 256 = 85 := by omega
  have e4 : (85 + 256 * m) / 256 = m := by omega
  have e5 : (a + 256 * y) % 256 = a := by omega
  have e6 : (a + 256 * y) / 256 = y := by omega
  rw [e1, e2, e3, e4, e5, e6]
  have := t_85 ⟨a, ha⟩ ⟨y % 2, by omega⟩
  simp only at this
  rw [this]
  unfold b1
  omega
theorem step2 (a y m : Nat) (ha : a < 256) : (((a + 256 * y) / 4) &&& (51 + 256 * m)) + ((a + 256 * y) &&& (51 + 256 * m)) = b2 a + 256 * (((y / 4) &&& m) + (y &&& m)) := by
  rw [and_byte ((a + 256 * y) / 4), and_byte (a + 256 * y)]
  have e1 : (a + 256 * y) / 4 % 256 = a / 4 + 64 * (y % 4) := by omega
  have e2 : (a + 256 * y) / 4 / 256 = y / 4 := by omega
  have e3 : (51 + 256 * m) % 256 = 51 := by omega
  have e4 : (51 + 256 * m) / 256 = m := by omega
  have e5 : (a + 256 * y) % 256 = a := by omega
  have e6 : (a + 256 * y) / 256 = y := by omega
  rw [e1, e2, e3, e4, e5, e6]
  have := t_51 ⟨a, ha⟩ ⟨y % 4, by omega⟩
  simp only at this
  rw [this]
  unfold b2
  omega
theorem and_15 (u : Nat) : u &&& 15 = u % 16 := Nat.and_two_pow_sub_one_eq_mod u 4
theorem step3 (a y m : Nat) (ha : a < 72) (hy : y % 16 ≤ 4) : ((a + 256 * y) / 16 + (a + 256 * y)) &&& (15 + 256 * m) = b3 a + 256 * ((y / 16 + y) &&& m) := by
  rw [and_byte]
  have e1 : ((a + 256 * y) / 16 + (a + 256 * y)) % 256 = a / 16 + 16 * (y % 16) + a := by omega
  have e2 : ((a + 256 * y) / 16 + (a + 256 * y)) / 256 = y / 16 + y := by omega
  have e3 : (15 + 256 * m) % 256 = 15 := by omega
  have e4 : (15 + 256 * m) / 256 = m := by omega
  rw [e1, e2, e3, e4, and_15]
  unfold b3
  omega
theorem sums (x : Nat) (hx : x < 16777216) : ∃ p q r : Nat, ps3 (ps2 (ps1 x)) = p + 256 * (q + 256 * r) ∧ p + q + r = popc 24 x ∧ p ≤ 8 ∧ q ≤ 8 ∧ r ≤ 8 ∧ ps1 x < 16777216 ∧ ps2 (ps1 x) < 16777216 := by
  obtain ⟨a, b, c, ha, hb, hc, e⟩ : ∃ a b c, a < 256 ∧ b < 256 ∧ c < 256 ∧ x = a + 256 * (b + 256 * c) := ⟨x % 256, x / 256 % 256, x / 65536, by omega, by omega, by omega, by omega⟩
  have A := b_all ⟨a, ha⟩
  have B := b_all ⟨b, hb⟩
  have C := b_all ⟨c, hc⟩
  simp only at A B C
  have s1 : ps1 x = b1 a + 256 * (b1 b + 256 * b1 c) := by
    unfold ps1
    rw [e, show 6148914691236517205 = 85 + 256 * 24019198012642645 from rfl, step1 a _ _ ha, show 24019198012642645 = 85 + 256 * 93824992236885 from rfl, step1 b _ _ hb,
      and_small (c / 2) _ (by omega), and_small c _ hc]
    rfl
  have s2 : ps2 (ps1 x) = b2 (b1 a) + 256 * (b2 (b1 b) + 256 * b2 (b1 c)) := by
    unfold ps2
    rw [s1, show 3689348814741910323 = 51 + 256 * 14411518807585587 from rfl, step2 _ _ _ A.1, show 14411518807585587 = 51 + 256 * 56294995342131 from rfl, step2 _ _ _ B.1,
      and_small (b1 c / 4) _ (by have := C.1; omega), and_small (b1 c) _ C.1]
    rfl
  have s3 : ps3 (ps2 (ps1 x)) = b3 (b2 (b1 a)) + 256 * (b3 (b2 (b1 b)) + 256 * b3 (b2 (b1 c))) := by
    unfold ps3
    have hB := B.2.2.2.1; have hC := C.2.2.2.1; have hC3 := C.2.2.1
    rw [s2, show 1085102592571150095 = 15 + 256 * 4238682002231055 from rfl, step3 _ _ _ A.2.2.1 (by omega), show 4238682002231055 = 15 + 256 * 16557351571215 from rfl, step3 _ _ _ B.2.2.1 hC,
      and_small _ _ (by omega), show 16557351571215 % 256 = 15 from rfl, and_15]
    rfl
  refine ⟨_, _, _, s3, ?_, ?_, ?_, ?_, ?_, ?_⟩
  · rw [A.2.2.2.2, B.2.2.2.2, C.2.2.2.2, e, show (24 : Nat) = 8 + 16 from rfl, show (256 : Nat) = 2 ^ 8 from rfl, popc_add 8 16 _ _ ha, show (16 : Nat) = 8 + 8 from rfl, popc_add 8 8 _ _ hb]
    omega
  · rw [A.2.2.2.2]; exact popc_le _ _
  · rw [B.2.2.2.2]; exact popc_le _ _
  · rw [C.2.2.2.2]; exact popc_le _ _
  · rw [s1]; have := A.1; have := B.1; have := C.1; omega
  · rw [s2]; have := A.2.2.1; have := B.2.2.1; have := C.2.2.1; omega
end Go.Proofs.Ytihbgpcmphemmaa
