/- The different numbers of a list in ascending order: the reference's insertion. -/
import Derived.Test.YtpejnhcmelkmeaaInsPlain
import Derived.Test.YtpejnhcmelkmeaaDvs
import Derived.Test.YtpejnhcmelkmeaaBas
namespace Go.Proofs.Ytpejnhcmelkmeaa
open Go.RowKit

theorem Row.lower {w : World} {base base' : Nat} {v : Value} {xs : List Int} (h : Row w base v xs) (hb : base' ≤ base) : Row w base' v xs := by
  refine ⟨h.1, ?_⟩
  rcases h.2 with h' | ⟨g, cap, cur, e, hg, r⟩
  · exact .inl h'
  · exact .inr ⟨g, cap, cur, e, Nat.le_trans hb hg, r⟩
theorem IR.takeN {w : World} {A : Option Addr} {ys : List Int} (h : IR w A ys) (k : Nat) : IR w A (ys.take k) := by
  refine ⟨by have := h.1; rw [List.length_take]; omega, fun h0 => ?_⟩
  rw [List.length_take] at h0
  obtain ⟨b, o, e, hb, hc⟩ := h.2 (by omega)
  refine ⟨b, o, e, hb, fun i hi => ?_⟩
  rw [List.length_take] at hi
  rw [hc i (by omega), List.getElem?_take_of_lt (by omega)]
theorem IR.dropN {w : World} {b p : Nat} {ys : List Int} (h : IR w (some ⟨b, p, none⟩) ys) (k : Nat) : IR w (some ⟨b, p + k, none⟩) (ys.drop k) := by
  refine ⟨by have := h.1; rw [List.length_drop]; omega, fun h0 => ?_⟩
  rw [List.length_drop] at h0
  obtain ⟨b', o, e, hb, hc⟩ := h.2 (by omega)
  injection e with e; injection e with e1 e2
  subst e1 e2
  refine ⟨b, p + k, rfl, hb, fun i hi => ?_⟩
  rw [List.length_drop] at hi
  rw [Nat.add_assoc, hc (k + i) (by omega), List.getElem?_drop]
theorem Row.some_ {w : World} {base : Nat} {v : Value} {xs : List Int} (h : Row w base v xs) (h0 : 0 < xs.length) : ∃ g c, v = .slice (some ⟨g, 0, none⟩) xs.length c := by
  rcases h.2 with ⟨e, hn⟩ | ⟨g, cap, cur, e, _⟩
  · omega
  · exact ⟨g, _, e⟩
theorem wpList_appR {ops : Array Oper} {rest : List Oper} {o : Oper} {a : Act} {Q : Exit → Act → World → Prop} {w : World} (hgd : o.guard = none) (s x : Operand)
    (ho : o.op = .call { callee := .builtin .append, args := #[s, x], argTypes := #[24, 24] })
    (base : Nat) (v : Value) (xs : List Int) (hs : a.eval s = v) (b p c : Nat) (ys : List Int) (hx : a.eval x = .slice (some ⟨b, p, none⟩) ys.length c) (hown : Row w base v xs) (hv : v ≠ .slice none 0 0) (hy : IR w (some ⟨b, p, none⟩) ys) (hl : xs.length + ys.length ≤ 1000000000) (hbase : base ≤ w.heap.size)
    (h : ∀ g c' w', Row w' base (.slice (some ⟨g, 0, none⟩) (xs.length + ys.length) c') (xs ++ ys) → Below base w w' → wpList Try.prog ops Q rest (a.put o.dst (.slice (some ⟨g, 0, none⟩) (xs.length + ys.length) c')) w') :
    wpList Try.prog ops Q (o :: rest) a w := by
  obtain ⟨i0, hi0, hz0, hz1, hz2⟩ := info_parts info_int
  refine wpList_append_own _ hgd s x 24 ho base 3 i0 (.int .i64 0) 1 8 Try.underlying24 hi0 hz0 hz1 hz2 rfl (by decide) v xs.length (ints xs) hs hown
    ⟨b, p, none⟩ ys.length c (ints ys) hx (by simp [ints]) ?_ ?_ (by unfold maxLen; omega) (by omega) hbase ?_
  · intro j u hj
    have hjl : j < ys.length := by
      have := (List.getElem?_eq_some_iff.1 hj).1
      simpa [ints] using this
    obtain ⟨b', o', e, _, hc⟩ := hy.at_ (by omega)
    injection e with e; injection e with e1 e2
    subst e1 e2
    have hadd : (⟨b, p, none⟩ : Addr).add j = ⟨b, p + j, none⟩ := by unfold Addr.add; split <;> simp_all
    rw [hadd, hc j hjl]
    simp [ints, hjl] at hj
    rw [← hj, List.getElem?_eq_getElem hjl]; rfl
  · intro u hu
    simp [ints] at hu
    obtain ⟨z, _, rfl⟩ := hu
    rfl
  · intro v' w' h1 h2 h3
    have hR : Row w' base v' (xs ++ ys) := by
      unfold Row
      rw [List.length_append, show ints (xs ++ ys) = ints xs ++ ints ys by simp [ints]]
      exact h1
    have hB : Below base w w' := ⟨h2.os, h2.tape, h2.output, h2.size, fun k hk => h2.block k (by omega) (fun e => by
      rcases hown.2 with ⟨e1, _⟩ | ⟨g, cap, cur, e1, hg', _⟩
      · exact hv e1
      · rw [e1] at e; simp [Value.ownBlock] at e; omega)⟩
    have hn : v' ≠ .slice none 0 0 := fun e => hv (h3.1 e).1
    have hA : ∃ g c', v' = .slice (some ⟨g, 0, none⟩) (xs.length + ys.length) c' := by
      rcases hR.2 with ⟨e1, _⟩ | ⟨g, cap, cur, e1, _⟩
      · exact absurd e1 hn
      · rw [List.length_append] at e1; exact ⟨g, cap, e1⟩
    obtain ⟨g, c', rfl⟩ := hA
    exact h g c' w' hR hB
end Go.Proofs.Ytpejnhcmelkmeaa
