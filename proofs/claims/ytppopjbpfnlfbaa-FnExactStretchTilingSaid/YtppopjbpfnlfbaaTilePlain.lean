/- Tilings: two ways to say that each pulse is a sum just once. -/
import Derived.Test.YtppopjbpfnlfbaaBas
import Derived.Test.YtppopjbpfnlfbaaSel
namespace Go.Proofs.Ytppopjbpfnlfbaa
open Go.RowKit

theorem sum_set {l : List Int} {i : Nat} (h : i < l.length) (y : Int) : (l.set i y).sum = l.sum - l[i]?.getD 0 + y := by
  induction l generalizing i with
  | nil => simp at h
  | cons x r ih =>
    cases i with
    | zero => simp; omega
    | succ i =>
      simp only [List.set_cons_succ, List.sum_cons, List.getElem?_cons_succ]
      rw [ih (by simpa using h)]
      omega
theorem inc_sum {l : List Int} {i : Nat} (h : i < l.length) : (inc l i).sum = l.sum + 1 := by
  unfold inc
  rw [sum_set h]
  omega
theorem inC_sum {s p : Int} {ys l : List Int} (hs : 1 ≤ s) (hl : l.length = s.toNat) (b : Nat) : (inC s p ys l b).sum = l.sum + b := by
  induction b with
  | zero => simp [inC]
  | succ b ih =>
    simp only [inC]
    have h0 := Int.emod_nonneg (p + ys[b]?.getD 0) (show s ≠ 0 by omega)
    have h1 := Int.emod_lt_of_pos (p + ys[b]?.getD 0) (show 0 < s by omega)
    rw [inc_sum (by rw [inC_len, hl]; omega), ih]
    omega
theorem zeros_sum (n : Nat) : (List.replicate n (0 : Int)).sum = 0 := by
  induction n with
  | zero => rfl
  | succ n ih => rw [List.replicate_succ, List.sum_cons, ih]; rfl
theorem outC_sum {s : Int} {xs ys : List Int} (hs : 1 ≤ s) (a : Nat) : (outC s xs ys a).sum = (a * ys.length : Nat) := by
  induction a with
  | zero => simp only [outC]; rw [zeros_sum]; simp
  | succ a ih =>
    simp only [outC]
    rw [inC_sum hs (outC_len _ _ _ _), ih, Nat.succ_mul]
    omega
theorem sumC_sum {s : Int} {xs ys : List Int} (hs : 1 ≤ s) : (sumC s xs ys).sum = (xs.length * ys.length : Nat) := outC_sum hs _
theorem selTo_full {p : Int → Bool} {k : Nat} : (selTo p k).length = k ↔ ∀ i : Nat, i < k → p (i : Int) = true := by
  induction k with
  | zero => simp [selTo]
  | succ k ih =>
    have hl := selTo_len p k
    cases hp : p (k : Int) with
    | true =>
      rw [selTo_hit hp, List.length_append]
      simp only [List.length_singleton]
      constructor
      · intro h i hi
        by_cases he : i = k
        · rw [he]; exact hp
        · exact ih.1 (by omega) i (by omega)
      · intro h
        have := ih.2 fun i hi => h i (by omega)
        omega
    | false =>
      rw [selTo_miss hp]
      constructor
      · intro h; omega
      · intro h; rw [h k (by omega)] at hp; cases hp
theorem ge_sum {l : List Int} (h : ∀ x ∈ l, 1 ≤ x) : (l.length : Int) ≤ l.sum := by
  induction l with
  | nil => simp
  | cons x r ih =>
    have h1 := h x (by simp)
    have h2 := ih fun y hy => h y (by simp [hy])
    simp only [List.length_cons, List.sum_cons]
    omega
theorem ones_of_sum {l : List Int} (h : ∀ x ∈ l, 1 ≤ x) (hs : l.sum = l.length) : ∀ x ∈ l, x = 1 := by
  induction l with
  | nil => simp
  | cons x r ih =>
    have h1 := h x (by simp)
    have hr : ∀ y ∈ r, 1 ≤ y := fun y hy => h y (by simp [hy])
    have h2 := ge_sum hr
    simp only [List.length_cons, List.sum_cons] at hs
    intro y hy
    rcases List.mem_cons.1 hy with rfl | hy
    · omega
    · exact ih hr (by omega) y hy
theorem sum_of_ones {l : List Int} (h : ∀ x ∈ l, x = 1) : l.sum = l.length := by
  induction l with
  | nil => rfl
  | cons x r ih =>
    have h1 := h x (by simp)
    have h2 := ih fun y hy => h y (by simp [hy])
    simp only [List.length_cons, List.sum_cons]
    omega
end Go.Proofs.Ytppopjbpfnlfbaa
