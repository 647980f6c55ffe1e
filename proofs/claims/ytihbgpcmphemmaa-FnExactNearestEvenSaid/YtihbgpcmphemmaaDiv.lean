/- Division of polynomials. -/
import Derived.Test.YtihbgpcmphemmaaDivPlain
import Derived.Test.YtihbgpcmphemmaaPolyOf
import Derived.Test.YtihbgpcmphemmaaBas
namespace Go.Proofs.Ytihbgpcmphemmaa
open Go.RowKit

theorem IO.cellAt {w : World} {base c g k : Nat} {xs : List Int} (h : IO w base (some ⟨g, 0, none⟩) c xs) (hk : k < xs.length) : ∃ x, w.cell? ⟨g, k, none⟩ = some (.int .i64 x) ∧ Bx (xs[k]? = some x) := by
  obtain ⟨b, o, e, _, hc⟩ := h.reads.at_ (by omega)
  injection e with e; injection e with e1 e2
  subst e1 e2
  have := hc k hk
  rw [Nat.zero_add] at this
  exact ⟨xs[k], by rw [this, List.getElem?_eq_getElem hk]; rfl, ⟨List.getElem?_eq_getElem hk⟩⟩
theorem IO.blkAt {w : World} {base c g : Nat} {xs : List Int} (h : IO w base (some ⟨g, 0, none⟩) c xs) : base ≤ g ∧ ∃ cur, Blk w g 3 cur ∧ c ≤ cur.size ∧ cur.toList.take xs.length = ints xs := by
  rcases h.2.2 with ⟨e, _⟩ | ⟨g', cur, e, hg, hh, hs, ht⟩
  · cases e
  · injection e with e; injection e with e1 e2
    subst e1
    exact ⟨hg, cur, hh, hs, ht⟩
theorem IO.frozenAt {w : World} {base c g : Nat} {xs : List Int} (h : IO w base (some ⟨g, 0, none⟩) c xs) (k : Nat) : w.frozen? ⟨g, k, none⟩ = false := by
  obtain ⟨_, cur, hh, _⟩ := h.blkAt
  exact Blk.frozen hh k
theorem IO.ltAt {w : World} {base c g : Nat} {xs : List Int} (h : IO w base (some ⟨g, 0, none⟩) c xs) : g < w.heap.size := by
  obtain ⟨_, cur, hh, _⟩ := h.blkAt
  exact hh.lt
theorem IO.setAt {w : World} {base c g k : Nat} {xs : List Int} (h : IO w base (some ⟨g, 0, none⟩) c xs) (x : Int) (_hk : k < xs.length) : IO (w.setCell ⟨g, k, none⟩ (.int .i64 x)) base (some ⟨g, 0, none⟩) c (xs.set k x) := by
  obtain ⟨hg, cur, hh, hs, ht⟩ := h.blkAt
  refine ⟨by rw [List.length_set]; exact h.1, by rw [List.length_set]; exact h.2.1, .inr ⟨g, _, rfl, hg, hh.set k _, by simpa using hs, ?_⟩⟩
  rw [List.length_set, Array.toList_setIfInBounds, List.take_set, ht]
  simp [ints, List.map_set]
theorem io_offAt {w : World} {base c g g' i : Nat} {xs : List Int} {v : Value} (h : IO w base (some ⟨g, 0, none⟩) c xs) (hne : g ≠ g') : IO (w.setCell ⟨g', i, none⟩ v) base (some ⟨g, 0, none⟩) c xs := by
  obtain ⟨hg, cur, hh, hs, ht⟩ := h.blkAt
  exact ⟨h.1, h.2.1, .inr ⟨g, cur, rfl, hg, (Below.heap_setCell w ⟨g', i, none⟩ v g (by intro e; simp at e; omega)).trans hh, hs, ht⟩⟩
theorem wpList_appS {ops : Array Oper} {rest : List Oper} {o : Oper} {a : Act} {Q : Exit → Act → World → Prop} {w : World} (hgd : o.guard = none) (s x : Operand)
    (ho : o.op = .call { callee := .builtin .append, args := #[s, x], argTypes := #[24, 24] })
    (base : Nat) (v : Value) (xs : List Int) (hs : a.eval s = v) (b p c : Nat) (ys : List Int) (hx : a.eval x = .slice (some ⟨b, p, none⟩) ys.length c) (hown : Row w base v xs) (hv : v ≠ .slice none 0 0) (hy : IR w (some ⟨b, p, none⟩) ys) (hl : xs.length + ys.length ≤ 1000000000) (hbase : base ≤ w.heap.size)
    (h : ∀ g c' w', IO w' base (some ⟨g, 0, none⟩) c' (xs ++ ys) → Below base w w' → wpList Try.prog ops Q rest (a.put o.dst (.slice (some ⟨g, 0, none⟩) (xs.length + ys.length) c')) w') :
    wpList Try.prog ops Q (o :: rest) a w := by
  obtain ⟨i0, hi0, hz0, hz1, hz2⟩ := info_parts info_int
  refine wpList_append_own _ hgd s x 24 ho base 3 i0 (.int .i64 0) 1 8 Try.underlying24 hi0 hz0 hz1 hz2 rfl (by decide) v xs.length (ints xs) hs hown
    ⟨b, p, none⟩ ys.length c (ints ys) hx (by simp [ints]) ?_ ?_ (by unfold maxLen; omega) (by omega) hbase ?_
  · intro j u hj
    have hjl : j < ys.length := by
      have := (List.getElem?_eq_some_iff.1 hj).1
      simpa [ints] using this
    obtain ⟨b', o', e, _, hc⟩ := hy.at_ (by omega)
    injection e with e; injection e with e1 e2
    subst e1 e2
    have hadd : (⟨b, p, none⟩ : Addr).add j = ⟨b, p + j, none⟩ := by unfold Addr.add; split <;> simp_all
    rw [hadd, hc j hjl]
    simp [ints, hjl] at hj
    rw [← hj, List.getElem?_eq_getElem hjl]; rfl
  · intro u hu
    simp [ints] at hu
    obtain ⟨z, _, rfl⟩ := hu
    rfl
  · intro v' w' h1 h2 h3
    have hR : Row w' base v' (xs ++ ys) := by
      unfold Row
      rw [List.length_append, show ints (xs ++ ys) = ints xs ++ ints ys by simp [ints]]
      exact h1
    have hB : Below base w w' := ⟨h2.os, h2.tape, h2.output, h2.size, fun k hk => h2.block k (by omega) (fun e => by
      rcases hown.2 with ⟨e1, _⟩ | ⟨g, cap, cur, e1, hg', _⟩
      · exact hv e1
      · rw [e1] at e; simp [Value.ownBlock] at e; omega)⟩
    have hn : v' ≠ .slice none 0 0 := fun e => hv (h3.1 e).1
    obtain ⟨A', c', e, io⟩ := hR.io (by rw [List.length_append]; omega)
    subst e
    have hA : ∃ g, A' = some ⟨g, 0, none⟩ := by
      rcases hR.2 with ⟨e1, _⟩ | ⟨g, cap, cur, e1, _⟩
      · exact absurd e1 hn
      · injection e1 with e1; exact ⟨g, e1⟩
    obtain ⟨g, rfl⟩ := hA
    rw [List.length_append]
    exact h g c' w' io hB
theorem eql_nil (b p n c : Nat) (w : World) : Sem.run Try.prog (binOp BinOp.eql 24 (.slice (some ⟨b, p, none⟩) n c) (.slice none 0 0)) w = .ok (.bool false) w := by kernel_rfl
def GivesII (w : World) (xs ys : List Int) (e : Ending) (w' : World) : Prop := ∃ g c g' c', e = .returned (.tuple #[.slice (some ⟨g, 0, none⟩) xs.length c, .slice (some ⟨g', 0, none⟩) ys.length c']) ∧ IO w' w.heap.size (some ⟨g, 0, none⟩) c xs ∧ IO w' w.heap.size (some ⟨g', 0, none⟩) c' ys ∧ Below w.heap.size w w'
set_option maxHeartbeats 400000 in
theorem clone_some (b p c : Nat) (xs : List Int) (w : World) (hx : IR w (some ⟨b, p, none⟩) xs) (hl : xs.length ≤ 1000000) :
    Calls Try.prog 88 #[.slice (some ⟨b, p, none⟩) xs.length c] w (GivesIS w xs) := by
  have bw := below_alloc w (.cells #[] 3)
  have HX := Bx.mk (hx.below bw)
  have HR := Bx.mk (Row.empty w w.heap.size (Nat.le_refl _))
  clear hx
  have hq := eql_nil b p xs.length c w
  go_enter Try.func88, Try.ntmps88
  go_wp2_with (at_builtin; go_must (refine wpList_appS rfl _ _ rfl w.heap.size (.slice (some ⟨w.heap.size, 0, none⟩) 0 0) [] rfl b p c xs rfl (by exact HR.out) (by simp) (by exact HX.out) (by simp; omega) (by simp) ?_); intro g c' w1 io b1; simp only [List.nil_append, List.length_nil, Nat.zero_add] at io ⊢)
  go_ret
  exact ⟨g, c', rfl, io, bw.trans b1⟩
end Go.Proofs.Ytihbgpcmphemmaa
