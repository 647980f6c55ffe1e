/- The second condition, walked. -/
import Derived.Test.YtbfaagdcifpcgaaGreatDoorMsPlain
import Derived.Test.YtbfaagdcifpcgaaGreatDoorBas
import Derived.Deep.RegionHeld3
import Derived.Deep.DeepCutAuto
import Derived.Deep.QuietTactic
import Derived.BigQuiet
import Derived.Deep.AppendLies
namespace Go.Proofs.YtbfaagdcifpcgaaGreatDoor
open Go.RowKit
set_option maxRecDepth 20000

theorem ir_tail {w : World} {b o : Nat} {s : Int} {r : List Int} (h : IR w (some ⟨b, o, none⟩) (s :: r)) : IR w (some ⟨b, o + 1, none⟩) r := by
  refine ⟨by have := h.1; simp at this; omega, fun h0 => ?_⟩
  obtain ⟨b', o', e, hb, hc⟩ := h.2 (by simp)
  injection e with e; injection e with e1 e2
  subst e1 e2
  refine ⟨b, o + 1, rfl, hb, fun k hk => ?_⟩
  have := hc (k + 1) (by simpa using hk)
  rw [show o + 1 + k = o + (k + 1) by omega]
  simpa using this
theorem ir_zero {w : World} {A : Option Addr} {xs : List Int} (h : xs.length = 0) : IR w A xs := by
  have : xs = [] := List.eq_nil_of_length_eq_zero h
  subst this; exact IR.nil w A
def bnd (m : Int) (k : Nat) : Prop := 1 ≤ m ∧ m * 24 ^ k ≤ 110075314176
theorem p24 (k : Nat) : (1 : Int) ≤ 24 ^ k := by
  induction k with
  | zero => simp
  | succ k ih => rw [Int.pow_succ]; omega
theorem bnd_le {m : Int} {k : Nat} (h : bnd m k) : m ≤ 110075314176 := by
  have h1 := Int.mul_le_mul_of_nonneg_left (p24 k) (show 0 ≤ m by have := h.1; omega)
  have := h.2
  omega
theorem bnd_drop {m : Int} {k : Nat} (h : bnd m (k + 1)) : bnd m k := by
  refine ⟨h.1, ?_⟩
  have h2 := h.2
  rw [Int.pow_succ, ← Int.mul_assoc] at h2
  have h1 : 0 ≤ m * 24 ^ k := Int.mul_nonneg (by have := h.1; omega) (by have := p24 k; omega)
  omega
theorem bnd_mul {m s : Int} {k : Nat} (h : bnd m (k + 1)) (h1 : 1 ≤ s) (h24 : s ≤ 24) : bnd (m * s) k := by
  have hm := h.1
  refine ⟨?_, ?_⟩
  · have := Int.mul_le_mul hm h1 (by omega) (by omega)
    simpa using this
  · have h2 := h.2
    rw [Int.pow_succ] at h2
    have h3 : m * s * 24 ^ k ≤ m * 24 * 24 ^ k := Int.mul_le_mul_of_nonneg_right (Int.mul_le_mul_of_nonneg_left h24 (by omega)) (by have := p24 k; omega)
    have e : m * 24 * 24 ^ k = m * (24 ^ k * 24) := by rw [Int.mul_assoc, Int.mul_comm 24]
    omega
theorem bnd_less {m : Int} {k : Nat} (h : bnd m k) : ∀ {j : Nat}, j ≤ k → bnd m j := by
  induction k with
  | zero => intro j hj; have : j = 0 := by omega
            subst this; exact h
  | succ k ih =>
    intro j hj
    by_cases e : j = k + 1
    · subst e; exact h
    · exact ih (bnd_drop h) (by omega)
theorem bnd_one : bnd 1 8 := by unfold bnd; omega
theorem bnd_len {k : Nat} (h : k ≤ 8) : bnd 1 k := by
  have : k = 0 ∨ k = 1 ∨ k = 2 ∨ k = 3 ∨ k = 4 ∨ k = 5 ∨ k = 6 ∨ k = 7 ∨ k = 8 := by omega
  unfold bnd
  rcases this with rfl | rfl | rfl | rfl | rfl | rfl | rfl | rfl | rfl <;> decide
theorem divs_8 {s : Int} (hs : 1 ≤ s ∧ s ≤ 24) : (divs s).length ≤ 8 := by
  obtain ⟨n, rfl⟩ := Int.eq_ofNat_of_zero_le (show 0 ≤ s by omega)
  rw [divs_small hs, Int.toNat_natCast]
  have : ∀ n : Fin 25, (divTo (n : Nat) n).length ≤ 8 := by decide +kernel
  exact this ⟨n, by omega⟩
theorem ppI_8 {s : Int} {xs : List Int} (hok : rhOk s xs = true) : (ppI s xs).length ≤ 8 := by
  refine Nat.le_trans (List.length_filter_le _ _) ?_
  unfold ordI ordL
  rw [if_pos hok]
  exact Nat.le_trans (List.length_filter_le _ _) (divs_8 (rhOk_iff.1 hok).1)
theorem divTo_le {n : Int} {k : Nat} : ∀ x ∈ divTo n k, 1 ≤ x ∧ x ≤ k := by
  induction k with
  | zero => simp [divTo]
  | succ k ih =>
    intro x hx
    simp only [divTo, List.mem_append] at hx
    rcases hx with hx | hx
    · have := ih x hx; omega
    · split at hx <;> simp at hx; omega
theorem ppI_pp {s : Int} {xs : List Int} (hok : rhOk s xs = true) : ∀ x ∈ ppI s xs, PPw x := by
  intro x hx
  unfold ppI at hx
  rw [List.mem_filter] at hx
  have hs := (rhOk_iff.1 hok).1
  have h1 := hx.1
  unfold ordI ordL at h1
  rw [if_pos hok, List.mem_filter, divs_small hs] at h1
  have := divTo_le x h1.1
  refine ⟨this.1, by omega, fun e => ?_⟩
  have h2 := hx.2
  simp [qn, ppP, e] at h2
def hM (L : List Int) (m : Int) : Bool := m == 1 || memB L m
def msI (s : Int) (xs : List Int) : Bool := rhOk s xs && aP (hM (ordI s xs)) (ppI s xs) 1
end Go.Proofs.YtbfaagdcifpcgaaGreatDoor
