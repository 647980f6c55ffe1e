/- How often each pulse is a sum of two beats: plain laws. -/
import Derived.Test.YtihbgpcmphemmaaRhPlain
namespace Go.Proofs.Ytihbgpcmphemmaa
open Go.RowKit

def inc (l : List Int) (i : Nat) : List Int := l.set i (l[i]?.getD 0 + 1)
def inC (s p : Int) (ys : List Int) (l : List Int) : Nat → List Int
  | 0 => l
  | b + 1 => inc (inC s p ys l b) ((p + ys[b]?.getD 0) % s).toNat
def outC (s : Int) (xs ys : List Int) : Nat → List Int
  | 0 => List.replicate s.toNat 0
  | a + 1 => inC s (xs[a]?.getD 0) ys (outC s xs ys a) ys.length
def sumC (s : Int) (xs ys : List Int) : List Int := outC s xs ys xs.length
theorem inc_len (l : List Int) (i : Nat) : (inc l i).length = l.length := by simp [inc]
theorem inC_len (s p : Int) (ys l : List Int) (b : Nat) : (inC s p ys l b).length = l.length := by
  induction b with
  | zero => rfl
  | succ b ih => simp only [inC, inc_len, ih]
theorem outC_len (s : Int) (xs ys : List Int) (a : Nat) : (outC s xs ys a).length = s.toNat := by
  induction a with
  | zero => simp [outC]
  | succ a ih => simp only [outC, inC_len, ih]
theorem sumC_len (s : Int) (xs ys : List Int) : (sumC s xs ys).length = s.toNat := outC_len _ _ _ _
def AllB (l : List Int) (N : Int) : Prop := ∀ (i : Nat) (x : Int), l[i]? = some x → 0 ≤ x ∧ x ≤ N
theorem AllB.inc {l : List Int} {N : Int} (h : AllB l N) (_hN : 0 ≤ N) (i : Nat) : AllB (inc l i) (N + 1) := by
  intro j x hx
  unfold Go.Proofs.Ytihbgpcmphemmaa.inc at hx
  by_cases hij : i = j
  · subst hij
    have hl : i < l.length := by have := (List.getElem?_eq_some_iff.1 hx).1; simpa using this
    rw [List.getElem?_set_self hl] at hx
    have := h i _ (List.getElem?_eq_getElem hl)
    rw [List.getElem?_eq_getElem hl] at hx
    simp at hx
    omega
  · rw [List.getElem?_set_ne hij] at hx
    have := h j x hx
    omega
theorem inC_bd {s p : Int} {ys l : List Int} {N : Int} (h : AllB l N) (hN : 0 ≤ N) (b : Nat) : AllB (inC s p ys l b) (N + b) := by
  induction b with
  | zero => simpa [inC] using h
  | succ b ih => have := ih.inc (by omega) ((p + ys[b]?.getD 0) % s).toNat; simp only [inC]; rw [Int.natCast_add, ← Int.add_assoc]; exact this
theorem outC_bd (s : Int) (xs ys : List Int) (a : Nat) : AllB (outC s xs ys a) (a * ys.length : Nat) := by
  induction a with
  | zero =>
    intro i x hx
    simp only [outC] at hx
    rw [List.getElem?_replicate] at hx
    split at hx
    · injection hx with hx; omega
    · cases hx
  | succ a ih =>
    have := inC_bd (s := s) (p := xs[a]?.getD 0) (ys := ys) ih (by omega) ys.length
    simp only [outC]
    rw [Nat.succ_mul, Int.natCast_add]
    exact this
theorem two_bd {s : Int} {xs ys : List Int} (hx : rhOk s xs = true) (hy : rhOk s ys = true) (a b : Nat) (ha : a < xs.length) (hb : b < ys.length) (i : Nat) (y : Int)
    (h : (inC s (xs[a]?.getD 0) ys (outC s xs ys a) b)[i]? = some y) : 0 ≤ y ∧ y ≤ 1000 := by
  have h1 := inC_bd (s := s) (p := xs[a]?.getD 0) (ys := ys) (outC_bd s xs ys a) (by omega) b i y h
  have h2 := (rhOk_len hx).1
  have h3 := (rhOk_len hy).1
  have h4 : a * ys.length ≤ 24 * 24 := Nat.mul_le_mul (by omega) h3
  omega
end Go.Proofs.Ytihbgpcmphemmaa
