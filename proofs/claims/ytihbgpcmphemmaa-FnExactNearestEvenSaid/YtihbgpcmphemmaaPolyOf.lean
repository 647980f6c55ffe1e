/- The polynomial of a rhythm. -/
import Derived.Test.YtihbgpcmphemmaaBas
namespace Go.Proofs.Ytihbgpcmphemmaa
open Go.RowKit

/-- the array after k beats -/
def polyTo (n : Nat) (xs : List Int) : Nat → List Int
  | 0 => List.replicate n 0
  | k + 1 => (polyTo n xs k).set (xs[k]?.getD 0).toNat 1
theorem polyTo_len (n : Nat) (xs : List Int) (k : Nat) : (polyTo n xs k).length = n := by
  induction k with
  | zero => simp [polyTo]
  | succ k ih => simp [polyTo, ih]
theorem polyTo_step {n : Nat} {xs : List Int} {k : Nat} {x : Int} (hx : xs[k]? = some x) : polyTo n xs (k + 1) = (polyTo n xs k).set x.toNat 1 := by simp [polyTo, hx]
def polyL (s : Int) (xs : List Int) : List Int := trim (polyTo s.toNat xs xs.length)
theorem trim_le (xs : List Int) : (trim xs).length ≤ xs.length := by rw [trim_len]; exact endLen_le _ _
theorem polyL_len {s : Int} {xs : List Int} (hs : 1 ≤ s ∧ s ≤ 24) : (polyL s xs).length ≤ 24 := by
  have := trim_le (polyTo s.toNat xs xs.length)
  rw [polyTo_len] at this
  unfold polyL; omega
theorem holds_gives {w wr : World} {n g c' : Nat} {L : List Int} (hg : w.heap.size ≤ g) (hL : L.length = n) (hn : n ≤ 1000000) (h : Holds wr g L) (hb : Below w.heap.size w wr) (h1 : (trim L).length ≤ c') (h2 : c' ≤ n) :
    GivesInts w (trim L) (.returned (.slice (some ⟨g, 0, none⟩) (trim L).length c')) wr := by
  have := (h.io (base := w.heap.size) hg (by omega))
  exact ⟨_, c', rfl, this.trim h1 (by omega), hb⟩
/-- a list in memory of the call's own that is not nil -/
def GivesIS (w : World) (xs : List Int) (e : Ending) (w' : World) : Prop := ∃ g c, e = .returned (.slice (some ⟨g, 0, none⟩) xs.length c) ∧ IO w' w.heap.size (some ⟨g, 0, none⟩) c xs ∧ Below w.heap.size w w'
theorem holds_givesS {w wr : World} {n g c' : Nat} {L : List Int} (hg : w.heap.size ≤ g) (hL : L.length = n) (hn : n ≤ 1000000) (h : Holds wr g L) (hb : Below w.heap.size w wr) (h1 : (trim L).length ≤ c') (h2 : c' ≤ n) :
    GivesIS w (trim L) (.returned (.slice (some ⟨g, 0, none⟩) (trim L).length c')) wr := by
  have := (h.io (base := w.heap.size) hg (by omega))
  exact ⟨_, c', rfl, this.trim h1 (by omega), hb⟩
def polyI (s : Int) (xs : List Int) : List Int := if rhOk s xs = true then polyL s xs else []
theorem rhOk_is' {f : FuncId} {args : Array Value} {w : World} {s : Int} {xs : List Int} {b : Bool} (hb : rhOk s xs = b) (h : Calls Try.prog f args w fun e w' => e = .returned (.bool (rhOk s xs)) ∧ Below w.heap.size w w') :
    Calls Try.prog f args w fun e w' => e = .returned (.bool b) ∧ Below w.heap.size w w' := by rw [← hb]; exact h
end Go.Proofs.Ytihbgpcmphemmaa
