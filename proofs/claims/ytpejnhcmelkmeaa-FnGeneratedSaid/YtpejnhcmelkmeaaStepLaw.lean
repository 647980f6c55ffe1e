/- Steps of a drawn region that append. -/
import Derived.Test.YtpejnhcmelkmeaaBas
import Derived.Deep.RegionHeld3
import Derived.Deep.AppendLies
namespace Go.Proofs.Ytpejnhcmelkmeaa
open Go.RowKit

theorem step_appL {ops : Array Oper} {o : Oper} {a : Act} {K : Act → World → Prop} {Q : Exit → Act → World → Prop} {E : Prop} {w : World} (hgd : o.guard = none) (s x : Operand)
    (ho : o.op = .call { callee := .builtin .append, args := #[s, x], argTypes := #[24, 24] })
    (base : Nat) (v : Value) (xs : List Int) (hs : a.eval s = v) (hown : Row w base v xs) (b p c : Nat) (ys : List Int) (hx : a.eval x = .slice (some ⟨b, p, none⟩) ys.length c)
    (hy : IR w (some ⟨b, p, none⟩) ys) (h0 : 0 < ys.length) (hl : xs.length + ys.length ≤ 1000000000) (hb : base ≤ w.heap.size)
    (h : ∀ g cap w', Row w' base (.slice (some ⟨g, 0, none⟩) (xs ++ ys).length cap) (xs ++ ys) → w.grownBy w' v.ownBlock → (v.ownBlock = some g ∨ g = w.heap.size) → g < w'.heap.size → K (a.put o.dst (.slice (some ⟨g, 0, none⟩) (xs ++ ys).length cap)) w') :
    if Region.wanted o (yielded ops a.tmps) = true then Oper.wp Try.prog o a w K Q else E := by
  obtain ⟨i0, hi0, hz0, hz1, hz2⟩ := info_parts info_int
  refine step_append_lies _ hgd s x 24 ho base 3 i0 (.int .i64 0) 1 8 Try.underlying24 hi0 hz0 hz1 hz2 rfl (by decide) v xs.length (ints xs) hs hown
    ⟨b, p, none⟩ ys.length c (ints ys) hx (by simp [ints]) ?_ ?_ h0 (by unfold maxLen; omega) (by omega) hb _ rfl ?_
  · intro j u hj
    have hjl : j < ys.length := by
      have := (List.getElem?_eq_some_iff.1 hj).1
      simpa [ints] using this
    obtain ⟨b', o', e, _, hc⟩ := hy.at_ h0
    injection e with e; injection e with e1 e2
    subst e1 e2
    have hadd : (⟨b, p, none⟩ : Addr).add j = ⟨b, p + j, none⟩ := by unfold Addr.add; split <;> simp_all
    rw [hadd, hc j hjl]
    simp [ints, hjl] at hj
    rw [← hj, List.getElem?_eq_getElem hjl]; rfl
  · intro u hu
    simp [ints] at hu
    obtain ⟨z, _, rfl⟩ := hu
    rfl
  · intro g cap w' h1 h2 h3 h4
    rw [← List.length_append] at h1 ⊢
    refine h g cap w' ?_ h2 h3 h4
    unfold Row
    rw [show ints (xs ++ ys) = ints xs ++ ints ys by simp [ints]]
    exact h1
theorem blk_eq {w : World} {g : Nat} {t : TypeId} {cs : Array Value} (h : g = w.heap.size) : Blk (w.alloc (.cells cs t)) g t cs := by rw [h]; exact Blk.new w t cs
theorem blk_undrew {w : World} {g : Nat} {t : TypeId} {cs : Array Value} (h : Blk w g t cs) : Blk w.drew g t cs := h
theorem row_blk {w : World} {g base : Nat} (h : Blk w g 3 #[]) (hb : base ≤ g) : Row w base (.slice (some ⟨g, 0, none⟩) 0 0) [] :=
  ⟨by simp [ints], .inr ⟨g, 0, #[], rfl, hb, h, Nat.le_refl _, by unfold maxLen; omega, rfl, rfl⟩⟩
theorem ir_one {w : World} {g : Nat} {z : Int} (h : Blk w g 3 #[.int .i64 z]) : IR w (some ⟨g, 0, none⟩) [z] := by
  refine ⟨by simp, fun _ => ⟨g, 0, rfl, h.lt, fun k hk => ?_⟩⟩
  have : k = 0 := by simp at hk; omega
  subst this
  exact h.cell 0
end Go.Proofs.Ytpejnhcmelkmeaa
