/- Even rhythms by groups: what both answer. -/
import Derived.Test.YtjpdgdacfejplaaDoorGePl
import Derived.Test.YtjpdgdacfejplaaDoorBas
namespace Go.Proofs.YtjpdgdacfejplaaDoor
open Go.RowKit
set_option maxRecDepth 20000

def geOk (k n : Int) : Bool := decide (1 ≤ n ∧ n ≤ 24 ∧ 0 ≤ k ∧ k ≤ n)
def geS (k n : Int) : Int := if geOk k n = true then n else 0
def geL (k n : Int) : List Int := if geOk k n = true then posL (gT sStep k.toNat n.toNat) n.toNat else []
theorem GivesRB.geno {w w' : World} {k n : Int} (h : geOk k n = false) (hb : Below w.heap.size w w') : GivesRB w (geS k n) (geL k n) (geOk k n) (.returned (.tuple #[.agg #[.int .i64 0, .slice none 0 0], .bool false])) w' := by
  have h1 : geS k n = 0 := by simp [geS, h]
  have h2 : geL k n = [] := by simp [geL, h]
  rw [h1, h2, h]
  exact ⟨none, 0, rfl, IO.nil _ _, hb⟩
theorem ge_in {k n : Nat} (h1 : 1 ≤ n) (hn : n ≤ 24) (hk : k ≤ n) : geOk k n = true ∧ geS k n = n ∧ geL k n = posL (gT sStep k n) n := by
  have h : geOk k n = true := by unfold geOk; rw [decide_eq_true_eq]; omega
  exact ⟨h, by unfold geS; rw [if_pos h], by unfold geL; rw [if_pos h]; simp⟩
theorem rep_succ (l : List UInt8) (i : Nat) : rep l (i + 1) = rep l i ++ l := rfl
theorem rep_len (l : List UInt8) (i : Nat) : (rep l i).length = i * l.length := by
  induction i with
  | zero => simp [rep]
  | succ i ih => rw [rep_succ, List.length_append, ih, Nat.succ_mul]
end Go.Proofs.YtjpdgdacfejplaaDoor
