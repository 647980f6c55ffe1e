/- The least rotation that leads to a rhythm, or none: both sides. -/
import Derived.Test.YtgfdmjhdfddopaaPer
import Derived.Deep.RegionHeld3
import Derived.Deep.DeepCutAuto
import Derived.Deep.RegionWith
namespace Go.Proofs.Ytgfdmjhdfddopaa
open Go.RowKit
set_option maxRecDepth 20000

def anyTo (p : Nat → Bool) (k : Nat) : Bool := (List.range k).any p
theorem anyTo_succ (p : Nat → Bool) (k : Nat) : anyTo p (k + 1) = (anyTo p k || p k) := by
  unfold anyTo; rw [List.range_succ, List.any_append]; simp
theorem anyTo_hit {p : Nat → Bool} {k n : Nat} (hk : k < n) (h : p k = true) : anyTo p n = true := by
  unfold anyTo; rw [List.any_eq_true]; exact ⟨k, List.mem_range.2 hk, h⟩
def rotP (s : Int) (ys xs : List Int) (k : Nat) : Bool := decide (rotL s ys (k : Int) = xs)
def rotB (s : Int) (ys xs : List Int) : Bool := anyTo (rotP s ys xs) s.toNat
/-- what a search for a rotation answers -/
def GivesRot (w : World) (b : Bool) (e : Ending) (w' : World) : Prop := ∃ r : Int, e = .returned (.int .i64 r) ∧ Bx ((b = true → 0 ≤ r) ∧ (b = false → r = -1)) ∧ Below w.heap.size w w'
theorem GivesRot.hit {w w' : World} {s : Int} {ys xs : List Int} {k n : Nat} (hn : s.toNat = n) (hk : k < n) (h : rotP s ys xs k = true) (b : Below w.heap.size w w') : GivesRot w (rotB s ys xs) (.returned (.int .i64 k)) w' :=
  ⟨k, rfl, Bx.mk (And.intro (fun _ => by omega) (fun h' => by have := anyTo_hit (n := s.toNat) (by omega) h; unfold rotB at h'; rw [this] at h'; cases h')), b⟩
theorem GivesRot.miss {w w' : World} {s : Int} {ys xs : List Int} (h : rotB s ys xs = false) (b : Below w.heap.size w w') : GivesRot w (rotB s ys xs) (.returned (.int .i64 (-1))) w' :=
  ⟨-1, rfl, Bx.mk (And.intro (fun h' => by rw [h] at h'; cases h') (fun _ => rfl)), b⟩
end Go.Proofs.Ytgfdmjhdfddopaa
