/- Numbers in ascending order, each once: which they are. -/
import Derived.Test.YtgfdmjhdfddopaaColl
import Derived.Test.YtgfdmjhdfddopaaTls
namespace Go.Proofs.Ytgfdmjhdfddopaa
open Go.RowKit
set_option maxRecDepth 20000

theorem arr_at {zs : List Int} {m : Nat} (h : m < zs.length) : zs.toArray[m]! = zs[m] := by
  simp [h]
theorem compact_spec {zs : List Int} (hs : zs.Pairwise (· ≤ ·)) : ∀ m, m ≤ zs.length → (Go.Lib.compactUpTo zs.toArray m).Pairwise (· < ·) ∧ ∀ x, x ∈ Go.Lib.compactUpTo zs.toArray m ↔ x ∈ zs.take m := by
  intro m
  induction m with
  | zero => intro _; simp [Go.Lib.compactUpTo]
  | succ m ih =>
    intro hm
    obtain ⟨h1, h2⟩ := ih (by omega)
    have hml : m < zs.length := hm
    have hz : zs[m]? = some zs[m] := List.getElem?_eq_getElem hml
    rw [Go.Lib.compactUpTo_succ, List.take_add_one, hz, Option.toList_some]
    by_cases hk : Go.Lib.keeps zs.toArray m = true
    · rw [if_pos hk, arr_at hml]
      refine ⟨List.pairwise_append.2 ⟨h1, by simp, fun a ha b hb => ?_⟩, fun x => by rw [List.mem_append, List.mem_append, h2 x]⟩
      simp only [List.mem_singleton] at hb
      subst hb
      obtain ⟨j, hj, rfl⟩ := List.getElem_of_mem ((h2 a).1 ha)
      rw [List.length_take] at hj
      rw [List.getElem_take]
      have hjm : j < m := by omega
      have hk2 : m = 0 ∨ zs.toArray[m]! ≠ zs.toArray[m - 1]! := by simpa [Go.Lib.keeps] using hk
      have hne : zs[m] ≠ zs[m - 1] := by
        rcases hk2 with h0 | h0
        · omega
        · rwa [arr_at hml, arr_at (show m - 1 < zs.length by omega)] at h0
      have hp := List.pairwise_iff_getElem.1 hs
      have c1 : zs[m - 1] ≤ zs[m] := hp (m - 1) m (by omega) hml (by omega)
      have c2 : zs[j] ≤ zs[m - 1] := by
        by_cases e : j = m - 1
        · subst e; exact Int.le_refl _
        · exact hp j (m - 1) (by omega) (by omega) (by omega)
      omega
    · rw [if_neg hk, List.append_nil]
      refine ⟨h1, fun x => ?_⟩
      rw [h2 x, List.mem_append, List.mem_singleton]
      constructor
      · exact .inl
      · rintro (h | h)
        · exact h
        · have hk2 : ¬ (m = 0 ∨ zs.toArray[m]! ≠ zs.toArray[m - 1]!) := fun h0 => hk (by simpa [Go.Lib.keeps] using h0)
          have h0 : m ≠ 0 := fun e => hk2 (.inl e)
          have he : zs.toArray[m]! = zs.toArray[m - 1]! := by
            by_cases e : zs.toArray[m]! = zs.toArray[m - 1]!
            · exact e
            · exact absurd (.inr e) hk2
          rw [arr_at hml, arr_at (show m - 1 < zs.length by omega)] at he
          rw [h, he]
          have : (zs.take m)[m - 1]? = some zs[m - 1] := by rw [List.getElem?_take_of_lt (by omega)]; exact List.getElem?_eq_getElem _
          exact List.mem_of_getElem? this
theorem asc_ext : ∀ {xs ys : List Int}, xs.Pairwise (· < ·) → ys.Pairwise (· < ·) → (∀ x, x ∈ xs ↔ x ∈ ys) → xs = ys
  | [], [], _, _, _ => rfl
  | [], y :: r, _, _, h => absurd ((h y).2 List.mem_cons_self) (by simp)
  | x :: r, [], _, _, h => absurd ((h x).1 List.mem_cons_self) (by simp)
  | x :: r, y :: q, hx, hy, h => by
    rw [List.pairwise_cons] at hx hy
    have e : x = y := by
      have h1 := (h x).1 List.mem_cons_self
      have h2 := (h y).2 List.mem_cons_self
      rcases List.mem_cons.1 h1 with h1 | h1
      · exact h1
      · rcases List.mem_cons.1 h2 with h2 | h2
        · exact h2.symm
        · have := hx.1 y h2; have := hy.1 x h1; omega
    subst e
    rw [asc_ext hx.2 hy.2 fun z => ?_]
    constructor
    · intro hz
      have := hx.1 z hz
      rcases List.mem_cons.1 ((h z).1 (List.mem_cons_of_mem _ hz)) with e | e
      · omega
      · exact e
    · intro hz
      have := hy.1 z hz
      rcases List.mem_cons.1 ((h z).2 (List.mem_cons_of_mem _ hz)) with e | e
      · omega
      · exact e
theorem srt_asc (xs : List Int) : (srt xs).Pairwise (· ≤ ·) := by
  have := List.pairwise_mergeSort (le := fun x y : Int => decide (x ≤ y)) (by intro a b c h1 h2; simp at *; omega) (by intro a b; simp; omega) xs
  unfold srt
  exact this.imp (fun h => by simpa using h)
theorem coll_asc (xs : List Int) : (coll xs).Pairwise (· < ·) := (compact_spec (srt_asc xs) _ (Nat.le_refl _)).1
theorem coll_mem (xs : List Int) (x : Int) : x ∈ coll xs ↔ x ∈ xs := by
  have := (compact_spec (srt_asc xs) _ (Nat.le_refl _)).2 x
  rw [List.take_length] at this
  unfold coll Go.Lib.compact
  rw [this]
  unfold srt
  exact List.mem_mergeSort
/-- of numbers in a range: those that are in the list, one after another -/
theorem coll_sel {xs : List Int} {n : Nat} (h : ∀ x ∈ xs, 0 ≤ x ∧ x < n) : coll xs = selTo (memB xs) n := by
  refine asc_ext (coll_asc xs) (selTo_asc _ _) fun x => ?_
  rw [coll_mem, selTo_mem]
  constructor
  · intro hx
    have := h x hx
    exact ⟨x.toNat, by omega, by omega, memB_iff.2 (by rw [show ((x.toNat : Nat) : Int) = x by omega]; exact hx)⟩
  · rintro ⟨i, _, rfl, hi⟩
    exact memB_iff.1 hi
end Go.Proofs.Ytgfdmjhdfddopaa
