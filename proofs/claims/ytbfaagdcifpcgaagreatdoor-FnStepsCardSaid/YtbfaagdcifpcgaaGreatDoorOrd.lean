/- The orders at which a rhythm vanishes. -/
import Derived.Test.YtbfaagdcifpcgaaGreatDoorDvs
import Derived.Test.YtbfaagdcifpcgaaGreatDoorDivs
namespace Go.Proofs.YtbfaagdcifpcgaaGreatDoor
open Go.RowKit
set_option maxRecDepth 20000

/-- the test by which orders go -/
def vq (s : Int) (xs : List Int) (d : Int) : Bool := d == 1 || !vanI s xs d
def ordTo (s : Int) (xs : List Int) (k : Nat) : List Int := (divTo s k).filter (qn (vq s xs))
def ordL (s : Int) (xs : List Int) : List Int := (divs s).filter (qn (vq s xs))
def ordI (s : Int) (xs : List Int) : List Int := if rhOk s xs = true then ordL s xs else []
theorem divs_small {s : Int} (hs : 1 ≤ s ∧ s ≤ 24) : divs s = divTo s s.toNat := by unfold divs; rw [if_pos (inB_yes (by omega))]
theorem ordTo_len (s : Int) (xs : List Int) (k : Nat) : (ordTo s xs k).length ≤ k := Nat.le_trans (List.length_filter_le _ _) (divTo_len s k)
theorem ordI_len (s : Int) (xs : List Int) : (ordI s xs).length ≤ 24 := by
  unfold ordI
  split
  · rename_i h
    have hs := (rhOk_iff.1 h).1
    unfold ordL
    rw [divs_small hs]
    have := ordTo_len s xs s.toNat
    unfold ordTo at this
    omega
  · simp
theorem ordTo_hit {s : Int} {xs : List Int} {k : Nat} (h1 : 1 ≤ k) (h0 : s % ((k : Int) + 1) = 0) (hv : vanI s xs ((k : Int) + 1) = true) : ordTo s xs (k + 1) = ordTo s xs k ++ [(k : Int) + 1] := by
  unfold ordTo
  rw [divTo_hit s k h0, List.filter_append]
  congr 1
  have : ((k : Int) + 1 == 1) = false := by simp; omega
  simp [qn, vq, hv, this]
theorem ordTo_out {s : Int} {xs : List Int} {k : Nat} (h0 : s % ((k : Int) + 1) = 0) (hv : vanI s xs ((k : Int) + 1) = false) : ordTo s xs (k + 1) = ordTo s xs k := by
  unfold ordTo
  rw [divTo_hit s k h0, List.filter_append]
  simp [qn, vq, hv]
theorem ordTo_miss {s : Int} {xs : List Int} {k : Nat} (h0 : s % ((k : Int) + 1) ≠ 0) : ordTo s xs (k + 1) = ordTo s xs k := by
  unfold ordTo
  rw [divTo_miss s k h0]
theorem ordTo_one (s : Int) (xs : List Int) : ordTo s xs 1 = [] := by
  unfold ordTo
  simp [divTo, qn, vq]
theorem GivesInts.mono' {w w1 w' : World} {A : Option Addr} {c : Nat} {xs : List Int} (hio : IO w' w1.heap.size A c xs) (bw : Below w.heap.size w w1) (b : Below w1.heap.size w1 w') : GivesInts w xs (.returned (.slice A xs.length c)) w' :=
  ⟨A, c, rfl, hio.mono bw.size, bw.trans (b.mono bw.size)⟩
end Go.Proofs.YtbfaagdcifpcgaaGreatDoor
