/- append onto a row that began as an empty literal made ahead of other memory. -/
import Derived.Test.YtihbgpcmphemmaaApp
import Derived.Deep.AppendLies
namespace Go.Proofs.Ytihbgpcmphemmaa
open Go.RowKit

def RowX (w : World) (base0 g0 base : Nat) (v : Value) (xs : List Int) : Prop := Row w base0 v xs ∧ ∀ g, v.ownBlock = some g → g = g0 ∨ base ≤ g
theorem RowX.start {w : World} {base0 g0 base n c : Nat} {xs : List Int} (h : Row w base0 (.slice (some ⟨g0, 0, none⟩) n c) xs) : RowX w base0 g0 base (.slice (some ⟨g0, 0, none⟩) n c) xs :=
  ⟨h, fun g hg => .inl (by simp [Value.ownBlock] at hg; exact hg.symm)⟩
theorem wpList_appX {ops : Array Oper} {rest : List Oper} {o : Oper} {a : Act} {Q : Exit → Act → World → Prop} {w : World} (hgd : o.guard = none) (s x : Operand)
    (ho : o.op = .call { callee := .builtin .append, args := #[s, x], argTypes := #[24, 24] })
    (base0 g0 base : Nat) (W1 : World) (v : Value) (xs : List Int) (z : Int) (hs : a.eval s = v) (hx : a.eval x = .slice (some ⟨w.heap.size, 0, none⟩) 1 1) (hown : RowX w base0 g0 base v xs) (hl : xs.length ≤ 1000000000) (hb0 : base0 ≤ w.heap.size) (hb : base ≤ w.heap.size)
    (hW : W1.heap.size ≤ base) (honly : Only W1 w (some ⟨g0, 0, none⟩))
    (h : ∀ v' w', RowX w' base0 g0 base v' (xs ++ [z]) → Only W1 w' (some ⟨g0, 0, none⟩) → wpList Try.prog ops Q rest (a.put o.dst v') w') :
    wpList Try.prog ops Q (o :: rest) a (w.alloc (.cells #[.int .i64 z] 3)) := by
  obtain ⟨i0, hi0, hz0, hz1, hz2⟩ := info_parts info_int
  refine wpList_append_lies _ hgd s x 24 ho base0 3 i0 (.int .i64 0) 1 8 Try.underlying24 hi0 hz0 hz1 hz2 rfl (by decide) v xs.length (ints xs) hs (World.ownsRow.alloc hown.1 _)
    ⟨w.heap.size, 0, none⟩ 1 1 [.int .i64 z] hx rfl ?_ ?_ (by decide) (by unfold maxLen; omega) (by omega) (by simp; omega) _ rfl ?_
  · exact cell_one_new _ _ _
  · intro u hu; simp at hu; subst hu; rfl
  · intro g cap w' h1 h2 h3 h4
    refine h _ w' ⟨?_, ?_⟩ ?_
    · unfold Row
      rw [List.length_append, show ints (xs ++ [z]) = ints xs ++ [.int .i64 z] by simp [ints]]
      exact h1
    · intro g' hg'
      simp [Value.ownBlock] at hg'
      subst hg'
      rcases h3 with h3 | h3
      · exact hown.2 _ h3
      · right; rw [h3]; simp; omega
    · refine ⟨h2.os.trans honly.os, h2.tape.trans honly.tape, h2.output.trans honly.output, Nat.le_trans honly.size (Nat.le_trans (by simp) h2.size), fun i hi hn => ?_⟩
      rw [h2.block i (Nat.lt_of_lt_of_le hi (Nat.le_trans honly.size (by simp))) (fun e => ?_)]
      · exact (Below.heap_alloc w _ i (Nat.lt_of_lt_of_le hi honly.size)).trans (honly.block i hi hn)
      · rcases hown.2 i e.symm with h5 | h5
        · subst h5; exact hn rfl
        · omega
end Go.Proofs.Ytihbgpcmphemmaa
