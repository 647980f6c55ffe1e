/- Even rhythms: their beats and their period. -/
import Derived.Test.YtgfdmjhdfddopaaRts
import Derived.Test.YtgfdmjhdfddopaaBas
namespace Go.Proofs.Ytgfdmjhdfddopaa
open Go.RowKit
set_option maxRecDepth 20000

def evL (n k j : Nat) : List Int := (List.range j).map fun i => ((i * n / k : Nat) : Int)
theorem evL_len (n k j : Nat) : (evL n k j).length = j := by simp [evL]
theorem evL_succ (n k j : Nat) : evL n k (j + 1) = evL n k j ++ [((j * n / k : Nat) : Int)] := by simp [evL, List.range_succ]
theorem ev_lt {n k i : Nat} (hi : i < k) (hn : 1 ≤ n) : i * n / k < n := by
  rw [Nat.div_lt_iff_lt_mul (by omega), Nat.mul_comm n k]
  exact Nat.mul_lt_mul_of_pos_right hi (by omega)
theorem ev_asc {n k i j : Nat} (hk : 0 < k) (hkn : k ≤ n) (hij : i < j) : i * n / k < j * n / k := by
  have h1 : (i + 1) * n ≤ j * n := Nat.mul_le_mul_right n hij
  have h2 : i * n + k ≤ j * n := by rw [Nat.succ_mul] at h1; omega
  have h3 := Nat.div_le_div_right (c := k) h2
  rw [Nat.add_div_right _ hk] at h3
  omega
theorem evL_ok {n k : Nat} (hn1 : 1 ≤ n) (hn : n ≤ 24) (hk : k ≤ n) : rhOk n (evL n k k) = true := by
  refine rhOk_iff.2 ⟨by omega, fun x hx => ?_, ?_⟩
  · unfold evL at hx
    obtain ⟨i, hi, rfl⟩ := List.mem_map.1 hx
    exact ⟨Int.natCast_nonneg _, Int.ofNat_lt.2 (ev_lt (List.mem_range.1 hi) hn1)⟩
  · unfold evL
    rw [List.pairwise_map]
    by_cases hk0 : k = 0
    · subst hk0; simp
    · exact List.pairwise_lt_range.imp fun {a b} h => Int.ofNat_lt.2 (ev_asc (n := n) (k := k) (by omega) hk h)
def perQ (n : Nat) (xs : List Int) (k : Nat) : Bool := decide (selTo (memB (modL n (addL (k : Int) xs))) n = xs)
theorem perQ_eq {n : Nat} (hn : 1 ≤ n) (xs : List Int) : perP n xs = perQ n xs := by
  funext k
  unfold perP perQ
  rw [rotL_sel (by omega), Int.toNat_natCast]
set_option maxRecDepth 100000 in
theorem ev_per_all : ∀ n, n < 25 → ∀ k, k < 25 → 1 ≤ n → k ≤ n → perGo (perQ n (evL n k k)) 1 (n - 1) = n / Nat.gcd k n := by decide +kernel
theorem ev_per {n k : Nat} (hn1 : 1 ≤ n) (hn : n ≤ 24) (hk : k ≤ n) : perL n (evL n k k) = n / Nat.gcd k n := by
  unfold perL
  rw [Int.toNat_natCast, perQ_eq hn1]
  exact ev_per_all n (by omega) k (by omega) hn1 hk
end Go.Proofs.Ytgfdmjhdfddopaa
