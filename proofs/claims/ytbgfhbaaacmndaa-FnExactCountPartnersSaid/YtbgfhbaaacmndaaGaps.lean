/- Pulses that are no sum; the rhythm of the sum. -/
import Derived.Test.YtbgfhbaaacmndaaSum
import Derived.Test.YtbgfhbaaacmndaaBas
namespace Go.Proofs.Ytbgfhbaaacmndaa
open Go.RowKit

theorem selTo_mem {p : Int → Bool} {k : Nat} {x : Int} : x ∈ selTo p k ↔ ∃ i : Nat, i < k ∧ x = (i : Int) ∧ p (i : Int) = true := by
  induction k with
  | zero => simp [selTo]
  | succ k ih =>
    cases hp : p (k : Int) with
    | true =>
      rw [selTo_hit hp, List.mem_append, ih]
      simp only [List.mem_singleton]
      constructor
      · rintro (⟨i, h1, h2, h3⟩ | h)
        · exact ⟨i, by omega, h2, h3⟩
        · exact ⟨k, by omega, h, hp⟩
      · rintro ⟨i, h1, h2, h3⟩
        by_cases he : i = k
        · right; rw [h2, he]
        · left; exact ⟨i, by omega, h2, h3⟩
    | false =>
      rw [selTo_miss hp, ih]
      constructor
      · rintro ⟨i, h1, h2, h3⟩; exact ⟨i, by omega, h2, h3⟩
      · rintro ⟨i, h1, h2, h3⟩
        by_cases he : i = k
        · rw [he, hp] at h3; cases h3
        · exact ⟨i, by omega, h2, h3⟩
theorem selTo_asc (p : Int → Bool) (k : Nat) : (selTo p k).Pairwise (· < ·) := by
  induction k with
  | zero => simp [selTo]
  | succ k ih =>
    cases hp : p (k : Int) with
    | true =>
      rw [selTo_hit hp, List.pairwise_append]
      refine ⟨ih, by simp, fun x hx y hy => ?_⟩
      obtain ⟨i, h1, h2, _⟩ := selTo_mem.1 hx
      simp at hy
      omega
    | false => rw [selTo_miss hp]; exact ih
theorem selTo_ok {s : Int} (hs : 1 ≤ s ∧ s ≤ 24) (p : Int → Bool) : rhOk s (selTo p s.toNat) = true := by
  refine rhOk_iff.2 ⟨hs, fun x hx => ?_, selTo_asc _ _⟩
  obtain ⟨i, h1, h2, _⟩ := selTo_mem.1 hx
  omega
theorem memB_sel {p : Int → Bool} {n k : Nat} (hk : k < n) : memB (selTo p n) (k : Int) = p (k : Int) := by
  rw [Bool.eq_iff_iff, memB_iff, selTo_mem]
  constructor
  · rintro ⟨i, h1, h2, h3⟩
    have : i = k := by omega
    rw [← this]; exact h3
  · intro h; exact ⟨k, hk, rfl, h⟩
def othP (xs : List Int) (p : Int) : Bool := !memB xs p
def othL (s : Int) (xs : List Int) : List Int := selTo (othP xs) s.toNat
def gapP (L : List Int) (p : Int) : Bool := L[p.toNat]?.getD 0 == 0
def gapsL (s : Int) (xs : List Int) (t : Int) (ys : List Int) : List Int := if twoOk s xs t ys = true then selTo (gapP (sumC s xs ys)) s.toNat else []
theorem gapsL_len (s : Int) (xs : List Int) (t : Int) (ys : List Int) : (gapsL s xs t ys).length ≤ 24 := by
  unfold gapsL
  split
  · rename_i h
    have := (rhOk_iff.1 (twoOk_iff.1 h).1).1
    have := selTo_len (gapP (sumC s xs ys)) s.toNat
    omega
  · simp
theorem oth_gaps {s : Int} {xs ys : List Int} : othL s (sumL s xs ys) = selTo (gapP (sumC s xs ys)) s.toNat := by
  have hb : AllB (sumC s xs ys) (xs.length * ys.length : Nat) := outC_bd s xs ys xs.length
  have hl : (sumC s xs ys).length = s.toNat := sumC_len _ _ _
  refine selTo_congr fun i hi => ?_
  unfold othP sumL gapP
  rw [memB_sel hi]
  unfold sumP
  rw [Int.toNat_natCast]
  have h1 := hb i _ (List.getElem?_eq_getElem (show i < (sumC s xs ys).length by omega))
  rw [List.getElem?_eq_getElem (show i < (sumC s xs ys).length by omega)]
  simp only [Option.getD_some]
  rw [Bool.eq_iff_iff]
  simp
  omega
end Go.Proofs.Ytbgfhbaaacmndaa
