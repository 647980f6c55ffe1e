/- A list without the zeros at its end. -/
import Derived.Test.YtihbgpcmphemmaaBase
import Derived.Test.YtihbgpcmphemmaaObjs
namespace Go.Proofs.Ytihbgpcmphemmaa
open Go.RowKit

/-- how many of the first n are left when the zeros at the end go -/
def endLen (xs : List Int) : Nat → Nat
  | 0 => 0
  | n + 1 => if xs[n]?.getD 0 = 0 then endLen xs n else n + 1
theorem endLen_le (xs : List Int) (n : Nat) : endLen xs n ≤ n := by
  induction n with
  | zero => exact Nat.le_refl _
  | succ n ih => simp only [endLen]; split <;> omega
theorem endLen_zero {xs : List Int} {n : Nat} {x : Int} (hx : xs[n]? = some x) (h : x = 0) : endLen xs (n + 1) = endLen xs n := by simp [endLen, hx, h]
theorem endLen_stop {xs : List Int} {n : Nat} {x : Int} (hx : xs[n]? = some x) (h : x ≠ 0) : endLen xs (n + 1) = n + 1 := by simp [endLen, hx, h]
def trim (xs : List Int) : List Int := xs.take (endLen xs xs.length)
theorem trim_len (xs : List Int) : (trim xs).length = endLen xs xs.length := by
  unfold trim; rw [List.length_take]; have := endLen_le xs xs.length; omega
theorem IO.take {w : World} {base c c' n : Nat} {A : Option Addr} {xs : List Int} (h : IO w base A c xs) (hn : n ≤ c') (hc : c' ≤ c) : IO w base A c' (xs.take n) := by
  obtain ⟨h1, h2, h3⟩ := h
  refine ⟨by rw [List.length_take]; omega, by rw [List.length_take]; omega, ?_⟩
  rcases h3 with ⟨h4, rfl⟩ | ⟨g, cur, e, hg, hh, hs, ht⟩
  · exact .inl ⟨h4, by simp⟩
  · refine .inr ⟨g, cur, e, hg, hh, by omega, ?_⟩
    rw [List.length_take, show min n xs.length = min n xs.length from rfl, ← List.take_take, ht]
    simp [ints, List.map_take]
theorem IO.trim {w : World} {base c c' : Nat} {A : Option Addr} {xs : List Int} (h : IO w base A c xs) (hn : (trim xs).length ≤ c') (hc : c' ≤ c) : IO w base A c' (trim xs) := by
  rw [trim_len] at hn
  exact h.take hn hc
end Go.Proofs.Ytihbgpcmphemmaa
