/- append of one int to a row of the call's own, as one law. -/
import Derived.Test.YtihbgpcmphemmaaBase
namespace Go.Proofs.Ytihbgpcmphemmaa
open Go.RowKit

def Row (w : World) (base : Nat) (v : Value) (xs : List Int) : Prop := w.ownsRow base 3 1 v xs.length (ints xs)
theorem Row.nil (w : World) (base : Nat) : Row w base (.slice none 0 0) [] := World.ownsRow_nil w base _ _
theorem Row.drewN {w : World} {base : Nat} {v : Value} {xs : List Int} (h : Row w base v xs) (n : Nat) : Row (w.drewN n) base v xs := h
theorem Row.alloc {w : World} {base : Nat} {v : Value} {xs : List Int} (h : Row w base v xs) (o : Obj) : Row (w.alloc o) base v xs := World.ownsRow.alloc h o
theorem Row.below {w w' : World} {base B : Nat} {v : Value} {xs : List Int} (h : Row w base v xs) (hb : Below B w w') (hB : w.heap.size ≤ B) : Row w' base v xs := by
  refine ⟨h.1, ?_⟩
  rcases h.2 with h' | ⟨g, cap, cur, e, hg, hh, r⟩
  · exact .inl h'
  · exact .inr ⟨g, cap, cur, e, hg, (hb.block g (Nat.lt_of_lt_of_le (heap_lt hh) hB)).trans hh, r⟩
theorem Row.io {w : World} {base : Nat} {v : Value} {xs : List Int} (h : Row w base v xs) (hl : xs.length ≤ 17592186044415) : ∃ A c, v = .slice A xs.length c ∧ IO w base A c xs := IO.of_row h hl

theorem Row.slice {w : World} {base : Nat} {v : Value} {xs : List Int} (h : Row w base v xs) : ∃ A c, v = .slice A xs.length c := by
  rcases h.2 with ⟨e, hn⟩ | ⟨g, cap, cur, e, _⟩
  · exact ⟨none, 0, by rw [e, hn]⟩
  · exact ⟨_, _, e⟩
theorem below_of_row {w w' : World} {base : Nat} {v : Value} {xs : List Int} (h : Row w base v xs) (o : Obj) (hg : (w.alloc o).grownBy w' v.ownBlock) (hbase : base ≤ w.heap.size) : Below base w w' := by
  have hb : Below base w (w.alloc o) := (Below.refl _ _).alloc hbase o
  refine hb.grown hg (by simp; omega) ?_
  intro k hk
  rcases h.2 with ⟨e, _⟩ | ⟨g, cap, cur, e, hg', _⟩
  · rw [e] at hk; simp [Value.ownBlock] at hk
  · rw [e] at hk; simp [Value.ownBlock] at hk; omega
theorem wpList_app1 {ops : Array Oper} {rest : List Oper} {o : Oper} {a : Act} {Q : Exit → Act → World → Prop} {w : World} (hgd : o.guard = none) (s x : Operand)
    (ho : o.op = .call { callee := .builtin .append, args := #[s, x], argTypes := #[24, 24] })
    (base : Nat) (v : Value) (xs : List Int) (z : Int) (hs : a.eval s = v) (hx : a.eval x = .slice (some ⟨w.heap.size, 0, none⟩) 1 1) (hown : Row w base v xs) (hl : xs.length ≤ 1000000000) (hbase : base ≤ w.heap.size)
    (h : ∀ v' w', Row w' base v' (xs ++ [z]) → Below base w w' → wpList Try.prog ops Q rest (a.put o.dst v') w') :
    wpList Try.prog ops Q (o :: rest) a (w.alloc (.cells #[.int .i64 z] 3)) := by
  obtain ⟨i0, hi0, hz0, hz1, hz2⟩ := info_parts info_int
  refine wpList_append_own _ hgd s x 24 ho base 3 i0 (.int .i64 0) 1 8 Try.underlying24 hi0 hz0 hz1 hz2 rfl (by decide) v xs.length (ints xs) hs (World.ownsRow.alloc hown _)
    ⟨w.heap.size, 0, none⟩ 1 1 [.int .i64 z] hx rfl ?_ ?_ (by unfold maxLen; omega) (by omega) (by simp; omega) ?_
  · exact cell_one_new _ _ _
  · intro u hu; simp at hu; subst hu; rfl
  · intro v' w' h1 h2 _
    refine h v' w' ?_ (below_of_row hown _ h2 hbase)
    unfold Row
    rw [List.length_append, show ints (xs ++ [z]) = ints xs ++ [.int .i64 z] by simp [ints]]
    exact h1

theorem Row.empty (w : World) (base : Nat) (hb : base ≤ w.heap.size) : Row (w.alloc (.cells #[] 3)) base (.slice (some ⟨w.heap.size, 0, none⟩) 0 0) [] :=
  ⟨by simp [ints], .inr ⟨w.heap.size, 0, #[], rfl, hb, heap_alloc_new w _, Nat.le_refl _, by unfold maxLen; omega, rfl, rfl⟩⟩
/-- what a function that makes a list of ints hands back -/
def GivesInts (w : World) (xs : List Int) (e : Ending) (w' : World) : Prop := ∃ A c, e = .returned (.slice A xs.length c) ∧ IO w' w.heap.size A c xs ∧ Below w.heap.size w w'
theorem GivesInts.of_row {w w' : World} {v : Value} {xs : List Int} (h : Row w' w.heap.size v xs) (hl : xs.length ≤ 17592186044415) (hb : Below w.heap.size w w') : GivesInts w xs (.returned v) w' := by
  obtain ⟨A, c, rfl, hio⟩ := h.io hl
  exact ⟨A, c, rfl, hio, hb⟩
theorem IO.ge {w : World} {base c : Nat} {A : Option Addr} {xs : List Int} (h : IO w base A c xs) : ∀ x, A = some x → base ≤ x.block := by
  intro x hx
  rcases h.2.2 with ⟨rfl, _⟩ | ⟨g, cur, e, hg, _⟩
  · cases hx
  · rw [e] at hx; injection hx with hx; rw [← hx]; exact hg

/-- the block g is just the list xs -/
def Holds (w : World) (g : Nat) (xs : List Int) : Prop := Blk w g 3 (ints xs).toArray
theorem Holds.cell {w : World} {g k : Nat} {xs : List Int} (h : Holds w g xs) (hk : k < xs.length) : ∃ x, w.cell? ⟨g, k, none⟩ = some (.int .i64 x) ∧ Bx (xs[k]? = some x) := by
  refine ⟨xs[k], ?_, ⟨List.getElem?_eq_getElem hk⟩⟩
  rw [Blk.cell h]
  simp [ints, hk]
theorem Holds.frozen {w : World} {g : Nat} {xs : List Int} (h : Holds w g xs) (k : Nat) : w.frozen? ⟨g, k, none⟩ = false := Blk.frozen h k
theorem Holds.set {w : World} {g : Nat} {xs : List Int} (h : Holds w g xs) (k : Nat) (x : Int) : Holds (w.setCell ⟨g, k, none⟩ (.int .i64 x)) g (xs.set k x) := by
  have := Blk.set h k (.int .i64 x)
  unfold Holds
  rwa [List.setIfInBounds_toArray, show (ints xs).set k (.int .i64 x) = ints (xs.set k x) by simp [ints, List.map_set]] at this
theorem Holds.other {w : World} {g g' k : Nat} {xs : List Int} (h : Holds w g xs) (hne : g ≠ g') (v : Value) : Holds (w.setCell ⟨g', k, none⟩ v) g xs := (Below.heap_setCell w ⟨g', k, none⟩ v g hne).trans h
theorem Holds.below {w w' : World} {g B : Nat} {xs : List Int} (h : Holds w g xs) (hb : Below B w w') (hg : g < B) : Holds w' g xs := Blk.below h hb hg
theorem Holds.alloc {w : World} {g : Nat} {xs : List Int} (h : Holds w g xs) (o : Obj) : Holds (w.alloc o) g xs := Blk.alloc h o
theorem Holds.lt {w : World} {g : Nat} {xs : List Int} (h : Holds w g xs) : g < w.heap.size := Blk.lt h
theorem Holds.made (w : World) (n : Nat) : Holds (w.alloc (.cells (madeCells #[.int .i64 0] n) 3)) w.heap.size (List.replicate n 0) := by
  have := Blk.new w 3 (madeCells #[.int .i64 0] n)
  unfold Holds
  rw [show ints (List.replicate n 0) = List.replicate n (Value.int .i64 0) by simp [ints], ← made_zero]
  exact this
theorem Holds.io {w : World} {g base : Nat} {xs : List Int} (h : Holds w g xs) (hb : base ≤ g) (hl : xs.length ≤ 17592186044415) : IO w base (some ⟨g, 0, none⟩) xs.length xs :=
  ⟨Nat.le_refl _, hl, .inr ⟨g, _, rfl, hb, h, by simp [ints], by rw [← ints_length xs]; exact List.take_length⟩⟩
end Go.Proofs.Ytihbgpcmphemmaa
