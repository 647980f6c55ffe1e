/- A number laid into an ascending row: the row of the numbers with it. -/
import Derived.Test.YtpejnhcmelkmeaaRts
namespace Go.Proofs.Ytpejnhcmelkmeaa
open Go.RowKit

theorem asc_le_at {ys : List Int} (h : ys.Pairwise (· < ·)) {i j : Nat} (hij : i ≤ j) (hj : j < ys.length) : ys[i]?.getD 0 ≤ ys[j]?.getD 0 := by
  have hi : i < ys.length := by omega
  rw [List.getElem?_eq_getElem hi, List.getElem?_eq_getElem hj]
  simp only [Option.getD_some]
  by_cases e : i = j
  · subst e; exact Int.le_refl _
  · have := List.pairwise_iff_getElem.1 h i j hi hj (by omega)
    omega
theorem ins_new {zs : List Int} {x : Int} {k : Nat} (hk : k ≤ (coll zs).length) (h1 : ∀ i, i < k → (coll zs)[i]?.getD 0 < x) (h2 : k < (coll zs).length → x < (coll zs)[k]?.getD 0) :
    coll (zs ++ [x]) = (coll zs).take k ++ [x] ++ (coll zs).drop k := by
  have ha := coll_asc zs
  refine asc_ext (coll_asc _) ?_ fun y => ?_
  · rw [List.append_assoc, List.pairwise_append]
    have hdrop : ∀ y ∈ (coll zs).drop k, x < y := by
      intro y hy
      obtain ⟨j, hj, rfl⟩ := List.getElem_of_mem hy
      rw [List.length_drop] at hj
      rw [List.getElem_drop]
      have a1 := h2 (by omega)
      have a2 := asc_le_at ha (show k ≤ k + j by omega) (by omega)
      rw [List.getElem?_eq_getElem (show k + j < (coll zs).length by omega)] at a2
      simp only [Option.getD_some] at a2
      omega
    have htake : ∀ y ∈ (coll zs).take k, y < x := by
      intro y hy
      obtain ⟨j, hj, rfl⟩ := List.getElem_of_mem hy
      rw [List.length_take] at hj
      rw [List.getElem_take]
      have a1 := h1 j (by omega)
      rw [List.getElem?_eq_getElem (show j < (coll zs).length by omega)] at a1
      simpa using a1
    refine ⟨ha.sublist (List.take_sublist _ _), ?_, ?_⟩
    · rw [List.singleton_append, List.pairwise_cons]
      exact ⟨hdrop, ha.sublist (List.drop_sublist _ _)⟩
    · intro a ha' b hb
      rw [List.singleton_append, List.mem_cons] at hb
      have := htake a ha'
      rcases hb with rfl | hb
      · exact this
      · have := hdrop b hb; omega
  · rw [coll_mem, List.append_assoc, List.mem_append, List.mem_append, List.mem_append, ← coll_mem zs y]
    have hs : y ∈ coll zs ↔ y ∈ (coll zs).take k ∨ y ∈ (coll zs).drop k := by
      conv => lhs; rw [← List.take_append_drop k (coll zs)]
      exact List.mem_append
    constructor
    · rintro (h | h)
      · rcases hs.1 h with h | h
        · exact .inl h
        · exact .inr (.inr h)
      · exact .inr (.inl h)
    · rintro (h | h | h)
      · exact .inl (hs.2 (.inl h))
      · exact .inr h
      · exact .inl (hs.2 (.inr h))
theorem ins_old {zs : List Int} {x : Int} {k : Nat} (hk : k < (coll zs).length) (he : (coll zs)[k]?.getD 0 = x) : coll (zs ++ [x]) = coll zs := by
  refine asc_ext (coll_asc _) (coll_asc _) fun y => ?_
  rw [coll_mem, List.mem_append, coll_mem]
  constructor
  · rintro (h | h)
    · exact h
    · rw [List.mem_singleton] at h
      rw [h, ← he, ← coll_mem, List.getElem?_eq_getElem hk]
      exact List.getElem_mem hk
  · exact .inl
theorem coll_take_succ {xs : List Int} {j : Nat} (hj : j < xs.length) : coll (xs.take (j + 1)) = coll (xs.take j ++ [xs[j]?.getD 0]) := by
  rw [List.take_add_one, List.getElem?_eq_getElem hj]; rfl
theorem coll_bd {xs : List Int} {a b : Int} (h : ∀ x ∈ xs, a ≤ x ∧ x ≤ b) : ∀ x ∈ coll xs, a ≤ x ∧ x ≤ b := fun x hx => h x ((coll_mem _ _).1 hx)
theorem coll_pos {xs : List Int} (h : 0 < xs.length) : 0 < (coll xs).length := by
  have : xs[0] ∈ coll xs := (coll_mem _ _).2 (List.getElem_mem h)
  exact List.length_pos_of_mem this
end Go.Proofs.Ytpejnhcmelkmeaa
