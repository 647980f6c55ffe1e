/- The pulses that a test picks, in order. -/
import Derived.Test.YtppopjbpfnlfbaaBas
namespace Go.Proofs.Ytppopjbpfnlfbaa
open Go.RowKit

def selTo (p : Int → Bool) : Nat → List Int
  | 0 => []
  | k + 1 => selTo p k ++ (if p (k : Int) = true then [(k : Int)] else [])
theorem selTo_len (p : Int → Bool) (k : Nat) : (selTo p k).length ≤ k := by
  induction k with
  | zero => simp [selTo]
  | succ k ih => simp only [selTo, List.length_append]; split <;> simp <;> omega
theorem selTo_hit {p : Int → Bool} {k : Nat} (h : p (k : Int) = true) : selTo p (k + 1) = selTo p k ++ [(k : Int)] := by simp [selTo, h]
theorem selTo_miss {p : Int → Bool} {k : Nat} (h : p (k : Int) = false) : selTo p (k + 1) = selTo p k := by simp [selTo, h]
theorem GivesInts.of_row' {w w' : World} {v : Value} {xs : List Int} {base : Nat} (h : Row w' base v xs) (hB : w.heap.size ≤ base) (hl : xs.length ≤ 17592186044415) (hb : Below w.heap.size w w') : GivesInts w xs (.returned v) w' := by
  obtain ⟨A, c, rfl, hio⟩ := h.io hl
  exact ⟨A, c, rfl, hio.mono hB, hb⟩
theorem selTo_congr {p q : Int → Bool} {k : Nat} (h : ∀ i : Nat, i < k → p (i : Int) = q (i : Int)) : selTo p k = selTo q k := by
  induction k with
  | zero => rfl
  | succ k ih => simp only [selTo]; rw [ih fun i hi => h i (by omega), h k (by omega)]
theorem hasR_in {s : Int} {xs : List Int} {k : Int} (h : 0 ≤ k ∧ k < s) : hasR s xs k = memB xs k := by
  unfold hasR; rw [Int.emod_eq_of_lt h.1 h.2]
end Go.Proofs.Ytppopjbpfnlfbaa
