/- An append that keeps the cells of the row it is appended to. -/
import Derived.Test.YtpejnhcmelkmeaaStepLaw
namespace Go.Proofs.Ytpejnhcmelkmeaa
open Go.RowKit

theorem run_appK {w : World} (ty : TypeId) (base g n cap : Nat) (xs : List Int) (hown : Row w base (.slice (some ⟨g, 0, none⟩) n cap) xs) (b p c : Nat) (ys : List Int) (hy : IR w (some ⟨b, p, none⟩) ys) (hn : n = xs.length) (h0 : 0 < ys.length)
    (hl : xs.length + ys.length ≤ 1000000000) (hb : base ≤ w.heap.size) :
    ∃ g' cap' w', (Builtin.append_ #[24, 24] ty #[.slice (some ⟨g, 0, none⟩) n cap, .slice (some ⟨b, p, none⟩) ys.length c]).run Try.prog w = .ok (.slice (some ⟨g', 0, none⟩) (xs ++ ys).length cap') w' ∧
      Row w' base (.slice (some ⟨g', 0, none⟩) (xs ++ ys).length cap') (xs ++ ys) ∧ w.grownBy w' (some g) ∧ g' < w'.heap.size ∧ ∀ j, j < xs.length → w'.cell? ⟨g, j, none⟩ = w.cell? ⟨g, j, none⟩ := by
  subst hn
  obtain ⟨i0, hi0, hz0, hz1, hz2⟩ := info_parts info_int
  have hadd : ∀ j, (⟨b, p, none⟩ : Addr).add j = ⟨b, p + j, none⟩ := fun j => by unfold Addr.add; split <;> simp_all
  have hnews : ∀ j u, (ints ys)[j]? = some u → w.cell? ((⟨b, p, none⟩ : Addr).add j) = some u := by
    intro j u hj
    have hjl : j < ys.length := by
      have := (List.getElem?_eq_some_iff.1 hj).1
      simpa [ints] using this
    obtain ⟨b', o', e, _, hc⟩ := hy.at_ h0
    injection e with e; injection e with e1 e2
    subst e1 e2
    rw [hadd, hc j hjl]
    simp [ints, hjl] at hj
    rw [← hj, List.getElem?_eq_getElem hjl]; rfl
  have h1 : ∀ u ∈ ints ys, u.oneCell' = true := by
    intro u hu
    simp [ints] at hu
    obtain ⟨z, _, rfl⟩ := hu
    rfl
  have hlen : (ints ys).length = ys.length * 1 := by simp [ints]
  obtain ⟨v', w', hr, h2, h3, h4⟩ := run_append_own (P := Try.prog) w base 24 ty 3 i0 (.int .i64 0) 1 8 Try.underlying24 hi0 hz0 hz1 hz2 rfl (by decide) _ xs.length (ints xs) hown ⟨b, p, none⟩ ys.length c (ints ys) hlen hnews h1 (by unfold maxLen; omega) (by omega) hb
  have hR : Row w' base v' (xs ++ ys) := by
    unfold Row
    rw [List.length_append, show ints (xs ++ ys) = ints xs ++ ints ys by simp [ints]]
    exact h2
  have hne : v' ≠ .slice none 0 0 := fun e => by
    obtain ⟨e1, _⟩ := h4.1 e
    cases e1
  have hform : ∃ g' cap', v' = .slice (some ⟨g', 0, none⟩) (xs ++ ys).length cap' ∧ g' < w'.heap.size := by
    rcases hR.2 with ⟨e1, _⟩ | ⟨g', cap', cur', e1, _, hh, _⟩
    · exact absurd e1 hne
    · exact ⟨g', _, e1, heap_lt hh⟩
  obtain ⟨g', cap', rfl, hlt⟩ := hform
  refine ⟨g', cap', w', hr, hR, h3, hlt, ?_⟩
  rcases hown.2 with ⟨e1, _⟩ | ⟨g0, cap0, cur, e1, hbg, hg, hnc, hcm, hcs, htake⟩
  · cases e1
  · injection e1 with e1 e2 e3
    injection e1 with e1
    injection e1 with e1
    subst e1 e3
    have holds : ∀ j u, (ints xs)[j]? = some u → w.cell? ((⟨g, 0, none⟩ : Addr).add j) = some u := World.ownsRow.cells hown (g := g) rfl
    by_cases hroom : xs.length + ys.length ≤ cap
    · have hfit : xs.length * i0.size + (ints ys).length ≤ cur.size := by rw [hz1, hlen, hcs]; omega
      have hr2 := run_append_room (P := Try.prog) w 24 ty 3 i0 Try.underlying24 hi0 g xs.length cap cur hg ⟨b, p, none⟩ ys.length c (ints ys) (by rw [hz1]; exact hlen) hnews h1 hroom hfit
      rw [hr] at hr2
      injection hr2 with hv hw
      injection hv with hv _ _
      injection hv with hv
      injection hv with hv
      subst hv
      intro j hj
      have hc1 := World.ownsRow.cells h2 (g := g') rfl j (.int .i64 xs[j]) (by rw [List.getElem?_append_left (by simp [ints]; omega)]; simp [ints, hj])
      have hc2 := holds j (.int .i64 xs[j]) (by simp [ints, hj])
      have ha : (⟨g', 0, none⟩ : Addr).add j = ⟨g', j, none⟩ := by unfold Addr.add; split <;> simp_all
      rw [ha] at hc1 hc2
      rw [hc1, hc2]
    · have hr2 := run_append_grow (P := Try.prog) w 24 ty 3 i0 (.int .i64 0) Try.underlying24 hi0 hz0 ⟨g, 0, none⟩ xs.length cap (ints xs) (by rw [hz1]; simp [ints]) holds ⟨b, p, none⟩ ys.length c (ints ys) (by rw [hz1]; exact hlen) hnews (by omega) (by omega) (by rw [hz2]; exact growslice_fits (by omega) (by omega))
      rw [hr] at hr2
      injection hr2 with hv hw
      subst hw
      intro j hj
      exact World.cell?_of_block (w := w) ((Below.heap_alloc w.drew _ g (heap_lt hg)).trans rfl)
theorem step_appK {ops : Array Oper} {o : Oper} {a : Act} {K : Act → World → Prop} {Q : Exit → Act → World → Prop} {E : Prop} {w : World} (hgd : o.guard = none) (s x : Operand)
    (ho : o.op = .call { callee := .builtin .append, args := #[s, x], argTypes := #[24, 24] })
    (base g n cap : Nat) (xs : List Int) (hs : a.eval s = .slice (some ⟨g, 0, none⟩) n cap) (hown : Row w base (.slice (some ⟨g, 0, none⟩) n cap) xs) (b p c : Nat) (ys : List Int) (hx : a.eval x = .slice (some ⟨b, p, none⟩) ys.length c)
    (hy : IR w (some ⟨b, p, none⟩) ys) (hn : n = xs.length) (h0 : 0 < ys.length) (hl : xs.length + ys.length ≤ 1000000000) (hb : base ≤ w.heap.size)
    (h : ∀ g' cap' w', Row w' base (.slice (some ⟨g', 0, none⟩) (xs ++ ys).length cap') (xs ++ ys) → w.grownBy w' (some g) → g' < w'.heap.size → (∀ j, j < xs.length → w'.cell? ⟨g, j, none⟩ = w.cell? ⟨g, j, none⟩) → K (a.put o.dst (.slice (some ⟨g', 0, none⟩) (xs ++ ys).length cap')) w') :
    if Region.wanted o (yielded ops a.tmps) = true then Oper.wp Try.prog o a w K Q else E := by
  have hw : Region.wanted o (yielded ops a.tmps) = true := by simp [Region.wanted, hgd]
  rw [if_pos hw]
  obtain ⟨g', cap', w', hr, h1, h2, h3, h4⟩ := run_appK (w := w) o.type base g n cap xs hown b p c ys hy hn h0 hl hb
  unfold Oper.wp
  simp [execOp, ho, resolve, invoke, builtin, hs, hx, hr, Result.andThen]
  have hk := h g' cap' w' h1 h2 h3 h4
  rw [List.length_append] at hk
  exact hk
end Go.Proofs.Ytpejnhcmelkmeaa
