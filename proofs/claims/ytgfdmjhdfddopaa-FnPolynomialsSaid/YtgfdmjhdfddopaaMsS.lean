/- The second condition, the reference's side. -/
import Derived.Test.YtgfdmjhdfddopaaMs
import Derived.Test.YtgfdmjhdfddopaaBas
import Derived.Test.YtgfdmjhdfddopaaTls
import Derived.Deep.RegionHeld3
import Derived.Deep.DeepCutAuto
import Derived.Deep.AppendLies
namespace Go.Proofs.Ytgfdmjhdfddopaa
open Go.RowKit
set_option maxRecDepth 20000

theorem blk_eq {w : World} {g : Nat} {t : TypeId} {cs : Array Value} (h : g = w.heap.size) : Blk (w.alloc (.cells cs t)) g t cs := by rw [h]; exact Blk.new w t cs
theorem blk_undrew {w : World} {g : Nat} {t : TypeId} {cs : Array Value} (h : Blk w g t cs) : Blk w.drew g t cs := h
theorem blk_grown {w w' : World} {g : Nat} {t : TypeId} {cs : Array Value} {r : Option Nat} (h : Blk w g t cs) (hg : w.grownBy w' r) (hne : r ≠ some g) : Blk w' g t cs := (hg.block g h.lt (fun e => hne e.symm)).trans h
theorem Row.undrew {w : World} {base : Nat} {v : Value} {xs : List Int} (h : Row w base v xs) : Row w.drew base v xs := h
theorem Row.base_le {w : World} {base g n c : Nat} {xs : List Int} (h : Row w base (.slice (some ⟨g, 0, none⟩) n c) xs) : base ≤ g := by
  rcases h.2 with ⟨e, _⟩ | ⟨g', cap, cur, e, hg, _⟩
  · cases e
  · injection e with e; injection e with e; injection e with e; omega
theorem row_blk {w : World} {g base : Nat} (h : Blk w g 3 #[]) (hb : base ≤ g) : Row w base (.slice (some ⟨g, 0, none⟩) 0 0) [] :=
  ⟨by simp [ints], .inr ⟨g, 0, #[], rfl, hb, h, Nat.le_refl _, by unfold maxLen; omega, rfl, rfl⟩⟩
theorem ir_one {w : World} {g : Nat} {z : Int} (h : Blk w g 3 #[.int .i64 z]) : IR w (some ⟨g, 0, none⟩) [z] := by
  refine ⟨by simp, fun _ => ⟨g, 0, rfl, h.lt, fun k hk => ?_⟩⟩
  have : k = 0 := by simp at hk; omega
  subst this
  exact h.cell 0
theorem bx_grown {a w w' : World} {r : Option Nat} (h : Bx (Below a.heap.size a w)) (hg : w.grownBy w' r) (hr : ∀ k, r = some k → a.heap.size ≤ k) : Bx (Below a.heap.size a w') :=
  ⟨h.out.grown hg h.out.size hr⟩
theorem step_appS {ops : Array Oper} {o : Oper} {a : Act} {K : Act → World → Prop} {Q : Exit → Act → World → Prop} {E : Prop} {w : World} (hgd : o.guard = none) (s x : Operand)
    (ho : o.op = .call { callee := .builtin .append, args := #[s, x], argTypes := #[23, 23] })
    (base : Nat) (v : Value) (xs : List Int) (hs : a.eval s = v) (hown : Row w base v xs) (b p c : Nat) (ys : List Int) (hx : a.eval x = .slice (some ⟨b, p, none⟩) ys.length c)
    (hy : IR w (some ⟨b, p, none⟩) ys) (hl : xs.length + ys.length ≤ 1000000000) (hb : base ≤ w.heap.size) (hv : v ≠ .slice none 0 0)
    (h : ∀ g cap w', Row w' base (.slice (some ⟨g, 0, none⟩) (xs ++ ys).length cap) (xs ++ ys) → w.grownBy w' v.ownBlock → K (a.put o.dst (.slice (some ⟨g, 0, none⟩) (xs ++ ys).length cap)) w') :
    if Region.wanted o (yielded ops a.tmps) = true then Oper.wp Try.prog o a w K Q else E := by
  have hw : Region.wanted o (yielded ops a.tmps) = true := by simp [Region.wanted, hgd]
  rw [if_pos hw]
  obtain ⟨i0, hi0, hz0, hz1, hz2⟩ := info_parts info_int
  refine wp_append_own w s x 23 ho base 3 i0 (.int .i64 0) 1 8 Try.underlying23 hi0 hz0 hz1 hz2 rfl (by decide) v xs.length (ints xs) hs hown
    ⟨b, p, none⟩ ys.length c (ints ys) hx (by simp [ints]) ?_ ?_ (by unfold maxLen; omega) (by omega) hb ?_
  · intro j u hj
    have hjl : j < ys.length := by
      have := (List.getElem?_eq_some_iff.1 hj).1
      simpa [ints] using this
    obtain ⟨b', o', e, _, hc⟩ := hy.at_ (by omega)
    injection e with e; injection e with e1 e2
    subst e1 e2
    have hadd : (⟨b, p, none⟩ : Addr).add j = ⟨b, p + j, none⟩ := by unfold Addr.add; split <;> simp_all
    rw [hadd, hc j hjl]
    simp [ints, hjl] at hj
    rw [← hj, List.getElem?_eq_getElem hjl]; rfl
  · intro u hu
    simp [ints] at hu
    obtain ⟨z, _, rfl⟩ := hu
    rfl
  · intro v' w' h1 h2 h3
    have hR : Row w' base v' (xs ++ ys) := by
      unfold Row
      rw [List.length_append, show ints (xs ++ ys) = ints xs ++ ints ys by simp [ints]]
      exact h1
    have hn : v' ≠ .slice none 0 0 := fun e => hv (h3.1 e).1
    obtain ⟨A', c', e⟩ := hR.slice
    subst e
    rcases hR.2 with ⟨e1, _⟩ | ⟨g, cap, cur, e1, _⟩
    · exact absurd e1 hn
    · injection e1 with e1
      subst e1
      exact h g c' w' hR h2
theorem hM_eq {L : List Int} {m : Int} (h : 1 ≤ m) : hM L m = (!decide (1 < m) || memB L m) := by
  unfold hM
  by_cases h1 : m = 1
  · subst h1; rfl
  · have : (m == 1) = false := by simpa using h1
    have h2 : decide (1 < m) = true := by simp; omega
    rw [this, h2]; rfl
theorem lLoop_at (h : Int → Bool) {l : List Int} {k : Nat} {s : Int} (hs : l[k]? = some s) (P : List Int) (m : Int) : lLoop h (l.drop k) P m = ((memB P (primeI s) || (h (m * s) && lLoop h (l.drop (k + 1)) (P ++ [primeI s]) (m * s))) && lLoop h (l.drop (k + 1)) P m) := by
  have hk := (List.getElem?_eq_some_iff.1 hs).1
  rw [List.drop_eq_getElem_cons hk, show l[k] = s by have := List.getElem?_eq_getElem hk; rw [hs] at this; exact (Option.some.inj this).symm]
  rfl
end Go.Proofs.Ytgfdmjhdfddopaa
