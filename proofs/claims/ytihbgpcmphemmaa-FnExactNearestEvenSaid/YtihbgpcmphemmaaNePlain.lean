/- The even rhythm nearest to a rhythm: the search as a plain law. -/
import Derived.Test.YtihbgpcmphemmaaEvPlain
import Derived.Test.YtihbgpcmphemmaaCmnPlain
import Derived.Test.YtihbgpcmphemmaaEv
namespace Go.Proofs.Ytihbgpcmphemmaa
open Go.RowKit

def neSt (n : Nat) (E xs : List Int) : Nat → List Int
  | 0 => E
  | k + 1 => if cmN (neSt n E xs k) xs < cmN (rotL n E (k : Int)) xs then rotL n E (k : Int) else neSt n E xs k
theorem rotL_ok {n : Nat} (hn1 : 1 ≤ n) (hn : n ≤ 24) (E : List Int) (k : Int) : rhOk n (rotL n E k) = true := by
  rw [rotL_sel (by omega)]
  exact selTo_ok (by omega) _
theorem rotL_zero {n : Nat} (hn1 : 1 ≤ n) {E : List Int} (hE : rhOk n E = true) : rotL n E ((0 : Nat) : Int) = E := by
  rw [rotL_sel (by omega)]
  have h := (rhOk_iff.1 hE).2.1
  have e : modL n (addL ((0 : Nat) : Int) E) = E := by
    unfold modL addL
    rw [List.map_map]
    conv => rhs; rw [← List.map_id E]
    refine List.map_congr_left fun x hx => ?_
    have := h x hx
    simp only [Function.comp, id]
    rw [Int.natCast_zero, Int.add_zero, Int.emod_eq_of_lt this.1 this.2]
  rw [e]
  exact sel_memB hE
theorem neSt_ok {n : Nat} (hn1 : 1 ≤ n) (hn : n ≤ 24) {E : List Int} (hE : rhOk n E = true) (xs : List Int) : ∀ k, rhOk n (neSt n E xs k) = true := by
  intro k
  induction k with
  | zero => exact hE
  | succ k ih =>
    simp only [neSt]
    split
    · exact rotL_ok hn1 hn E _
    · exact ih
theorem neSt_one {n : Nat} (hn1 : 1 ≤ n) {E : List Int} (hE : rhOk n E = true) (xs : List Int) : neSt n E xs 1 = E := by
  show (if _ then rotL n E ((0 : Nat) : Int) else neSt n E xs 0) = E
  rw [rotL_zero hn1 hE]
  split <;> rfl
def neR (s : Int) (xs : List Int) : List Int := neSt s.toNat (evL s.toNat xs.length xs.length) xs s.toNat
def neS (s : Int) (xs : List Int) : Int := if rhOk s xs = true then s else 0
def neL (s : Int) (xs : List Int) : List Int := if rhOk s xs = true then neR s xs else []
def neC (s : Int) (xs : List Int) : Int := if rhOk s xs = true then (cmN (neR s xs) xs : Nat) else -1
theorem GivesRI.no {w w' : World} {s : Int} {xs : List Int} (h : rhOk s xs = false) (hb : Below w.heap.size w w') : GivesRI w (neS s xs) (neL s xs) (neC s xs) (.returned (.tuple #[.agg #[.int .i64 0, .slice none 0 0], .int .i64 (-1)])) w' := by
  have h1 : neS s xs = 0 := by simp [neS, h]
  have h2 : neL s xs = [] := by simp [neL, h]
  have h3 : neC s xs = -1 := by simp [neC, h]
  rw [h1, h2, h3]
  exact ⟨none, 0, rfl, IO.nil _ _, hb⟩
theorem GivesRI.yes {w w' : World} {n : Nat} {xs bl : List Int} {A : Option Addr} {c q : Nat} (h : rhOk n xs = true) (hL : bl = neSt n (evL n xs.length xs.length) xs n) (hq : q = cmN bl xs) (io : IO w' w.heap.size A c bl) (hb : Below w.heap.size w w') : GivesRI w (neS n xs) (neL n xs) (neC n xs) (.returned (.tuple #[.agg #[.int .i64 n, .slice A bl.length c], .int .i64 (q : Int)])) w' := by
  have h1 : neS n xs = n := by simp [neS, h]
  have h2 : neL n xs = bl := by rw [hL]; simp [neL, h, neR]
  have h3 : neC n xs = (q : Int) := by rw [hq, hL]; simp [neC, h, neR]
  rw [h1, h2, h3]
  exact ⟨A, c, rfl, io, hb⟩
end Go.Proofs.Ytihbgpcmphemmaa
