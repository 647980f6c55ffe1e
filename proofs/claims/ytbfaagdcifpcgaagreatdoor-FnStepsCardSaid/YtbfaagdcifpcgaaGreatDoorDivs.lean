/- The divisors of a number: the program's list and the reference's are one list. -/
import Derived.Test.YtbfaagdcifpcgaaGreatDoorBas
import Derived.Deep.QuietTactic
import Derived.BigQuiet
import Derived.Deep.DeepMust
namespace Go.Proofs.YtbfaagdcifpcgaaGreatDoor
open Go.RowKit
set_option maxRecDepth 20000

def divTo (n : Int) : Nat → List Int
  | 0 => []
  | k + 1 => divTo n k ++ (if n % (k + 1 : Nat) = 0 then [((k + 1 : Nat) : Int)] else [])
theorem divTo_len (n : Int) (k : Nat) : (divTo n k).length ≤ k := by
  induction k with
  | zero => simp [divTo]
  | succ k ih => simp only [divTo, List.length_append]; split <;> simp <;> omega
theorem divTo_hit (n : Int) (k : Nat) (h : n % ((k : Int) + 1) = 0) : divTo n (k + 1) = divTo n k ++ [(k : Int) + 1] := by
  have : n % (k + 1 : Nat) = 0 := by simpa using h
  simp [divTo, h]
theorem divTo_miss (n : Int) (k : Nat) (h : n % ((k : Int) + 1) ≠ 0) : divTo n (k + 1) = divTo n k := by
  simp [divTo, h]
def divs (n : Int) : List Int := if inB n 1 1000 = true then divTo n n.toNat else []
theorem divs_len (n : Int) : (divs n).length ≤ 1000 := by
  unfold divs
  split
  · rename_i h; have := inB_iff.1 h; have := divTo_len n n.toNat; omega
  · simp
end Go.Proofs.YtbfaagdcifpcgaaGreatDoor
