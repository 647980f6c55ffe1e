/- append of one element of whatever size to a row of the call's own; rows of rows of ints. -/
import Derived.Test.YtgfdmjhdfddopaaBas
namespace Go.Proofs.Ytgfdmjhdfddopaa
open Go.RowKit
set_option maxRecDepth 20000

theorem wpList_appG {ops : Array Oper} {rest : List Oper} {o : Oper} {a : Act} {Q : Exit → Act → World → Prop} {w : World} (T e size bytes : Nat) (z : Value) (hT : Try.prog.underlying T = some (.slice e))
    (hinfo : (Try.prog.info? e).map (fun i => (i.zero, i.size, i.bytes)) = some (some z, size, bytes)) (hzs : z.cells.size = size) (hsz : 0 < size) (hby : bytes ≤ 100) (hgd : o.guard = none) (s x : Operand)
    (ho : o.op = .call { callee := .builtin .append, args := #[s, x], argTypes := #[T, T] })
    (base : Nat) (v : Value) (n : Nat) (xs news : List Value) (hs : a.eval s = v) (hx : a.eval x = .slice (some ⟨w.heap.size, 0, none⟩) 1 1) (hnl : news.length = size) (h1 : ∀ u ∈ news, u.oneCell' = true)
    (hown : w.ownsRow base e size v n xs) (hl : n ≤ 1000000000) (hbase : base ≤ w.heap.size)
    (h : ∀ v' w', w'.ownsRow base e size v' (n + 1) (xs ++ news) → w.grownBy w' v.ownBlock → Below base w w' → wpList Try.prog ops Q rest (a.put o.dst v') w') :
    wpList Try.prog ops Q (o :: rest) a (w.alloc (.cells news.toArray e)) := by
  obtain ⟨i0, hi0, hz0, hz1, hz2⟩ := info_parts hinfo
  refine wpList_append_own _ hgd s x T ho base e i0 z size bytes hT hi0 hz0 hz1 hz2 hzs hsz v n xs hs (World.ownsRow.alloc hown _)
    ⟨w.heap.size, 0, none⟩ 1 1 news hx (by rw [hnl]; omega) ?_ h1 (by unfold maxLen; omega) ?_ (by simp; omega) ?_
  · intro j u hj
    have hadd : (⟨w.heap.size, 0, none⟩ : Addr).add j = ⟨w.heap.size, j, none⟩ := by unfold Addr.add; split <;> simp_all
    rw [hadd, World.cell?_alloc_new]
    simpa using hj
  · calc (n + 1) * bytes ≤ (1000000000 + 1) * 100 := Nat.mul_le_mul (by omega) hby
      _ ≤ 140737488355328 := by omega
  · intro v' w' h1 h2 _
    have hg : w.grownBy w' v.ownBlock := ⟨h2.os, h2.tape, h2.output, Nat.le_trans (by simp) h2.size, fun k hk hne => (h2.block k (by simp; omega) hne).trans (heap_alloc_old w _ hk)⟩
    refine h v' w' h1 hg ⟨hg.os, hg.tape, hg.output, hg.size, fun k hk => hg.block k (by omega) (fun e' => ?_)⟩
    rcases hown.2 with ⟨e1, _⟩ | ⟨g, cap, cur, e1, hg', _⟩
    · rw [e1] at e'; simp [Value.ownBlock] at e'
    · rw [e1] at e'; simp [Value.ownBlock] at e'; omega

theorem info_ints : (Try.prog.info? 23).map (fun i => (i.zero, i.size, i.bytes)) = some (some (.slice none 0 0), 1, 24) := by kernel_rfl

/-- the row v of ints is not nil and lies in block g -/
def RowAt (w : World) (g : Nat) (v : Value) (xs : List Int) : Prop := ∃ c, v = .slice (some ⟨g, 0, none⟩) xs.length c ∧ IO w g (some ⟨g, 0, none⟩) c xs
theorem RowAt.elem {w : World} {g : Nat} {v : Value} {xs : List Int} (h : RowAt w g v xs) : ∃ cs, w.heap[g]? = some (.cells cs 3 (0, 0)) := by
  obtain ⟨c, rfl, _, _, h⟩ := h
  rcases h with ⟨e, _⟩ | ⟨g', cur, e, _, hh, _⟩
  · cases e
  · injection e with e; injection e with e
    subst e
    exact ⟨cur, hh⟩
theorem RowAt.lt {w : World} {g : Nat} {v : Value} {xs : List Int} (h : RowAt w g v xs) : g < w.heap.size := by
  obtain ⟨cs, hc⟩ := h.elem
  exact heap_lt hc
theorem RowAt.same {w w' : World} {g : Nat} {v : Value} {xs : List Int} (h : RowAt w g v xs) (hb : w'.heap[g]? = w.heap[g]?) : RowAt w' g v xs := by
  obtain ⟨c, rfl, h1, h2, h⟩ := h
  refine ⟨c, rfl, h1, h2, ?_⟩
  rcases h with ⟨e, _⟩ | ⟨g', cur, e, hg, hh, r⟩
  · cases e
  · injection e with e; injection e with e
    subst e
    exact .inr ⟨g, cur, rfl, hg, hb.trans hh, r⟩
theorem RowAt.below {w w' : World} {g B : Nat} {v : Value} {xs : List Int} (h : RowAt w g v xs) (hb : Below B w w') (hB : g < B) : RowAt w' g v xs := h.same (hb.block g hB)
theorem RowAt.grown {w w' : World} {g : Nat} {v : Value} {xs : List Int} {row : Option Nat} (h : RowAt w g v xs) (hb : w.grownBy w' row) (hne : some g ≠ row) : RowAt w' g v xs := h.same (hb.block g h.lt hne)
theorem RowAt.io {w : World} {g : Nat} {v : Value} {xs : List Int} (h : RowAt w g v xs) : ∃ c, v = .slice (some ⟨g, 0, none⟩) xs.length c ∧ IO w g (some ⟨g, 0, none⟩) c xs := h

/-- the outer row V: its cells are the values vs, each a row of ints in a block of its own, the blocks ascending, all below the block 'top' -/
structure Rows2 (w : World) (base : Nat) (V : Value) (gs : List Nat) (vs : List Value) (xss : List (List Int)) : Prop where
  outer : w.ownsRow base 23 1 V vs.length vs
  lenv : vs.length = xss.length
  leng : gs.length = xss.length
  rows : ∀ (k : Nat) (v : Value) (xs : List Int) (g : Nat), vs[k]? = some v → xss[k]? = some xs → gs[k]? = some g → RowAt w g v xs ∧ base ≤ g
  asc : gs.Pairwise (· < ·)
theorem Rows2.start (w : World) (base : Nat) : Rows2 w base (.slice none 0 0) [] [] [] :=
  ⟨World.ownsRow_nil w base _ _, rfl, rfl, fun k v xs g h => by simp at h, List.Pairwise.nil⟩
theorem Rows2.below {w w' : World} {base : Nat} {V : Value} {gs : List Nat} {vs : List Value} {xss : List (List Int)} (h : Rows2 w base V gs vs xss) {B : Nat} (hb : Below B w w') (hB : w.heap.size ≤ B) : Rows2 w' base V gs vs xss := by
  refine ⟨?_, h.lenv, h.leng, fun k v xs g h1 h2 h3 => ?_, h.asc⟩
  · refine ⟨h.outer.1, ?_⟩
    rcases h.outer.2 with h' | ⟨g, cap, cur, e, hg, hh, r⟩
    · exact .inl h'
    · exact .inr ⟨g, cap, cur, e, hg, (hb.block g (Nat.lt_of_lt_of_le (heap_lt hh) hB)).trans hh, r⟩
  · have := h.rows k v xs g h1 h2 h3
    exact ⟨this.1.below hb (Nat.lt_of_lt_of_le this.1.lt hB), this.2⟩
theorem Rows2.outer_ne {w : World} {base g : Nat} {V v : Value} {vs : List Value} {xs : List Int} (h : w.ownsRow base 23 1 V vs.length vs) (hr : RowAt w g v xs) : some g ≠ V.ownBlock := by
  rcases h.2 with ⟨e, _⟩ | ⟨g', cap, cur, e, hg, hh, r⟩
  · rw [e]; simp [Value.ownBlock]
  · rw [e]
    intro e'
    simp [Value.ownBlock] at e'
    subst e'
    obtain ⟨cs, hc⟩ := hr.elem
    rw [hc] at hh
    simp at hh
theorem Rows2.push {w w' : World} {base g : Nat} {V V' v : Value} {gs : List Nat} {vs : List Value} {xss : List (List Int)} {xs : List Int} (h : Rows2 w base V gs vs xss) (hr : RowAt w g v xs) (hg : base ≤ g)
    (hasc : ∀ x ∈ gs, x < g) (ho : w'.ownsRow base 23 1 V' (vs.length + 1) (vs ++ [v])) (hgr : w.grownBy w' V.ownBlock) : Rows2 w' base V' (gs ++ [g]) (vs ++ [v]) (xss ++ [xs]) := by
  have hV := h.outer
  refine ⟨by simpa using ho, by simp [h.lenv], by simp [h.leng], fun k v' xs' g' h1 h2 h3 => ?_, ?_⟩
  · by_cases hk : k < vs.length
    · have h1' : vs[k]? = some v' := by rwa [List.getElem?_append_left hk] at h1
      have h2' : xss[k]? = some xs' := by rwa [List.getElem?_append_left (by rw [← h.lenv]; exact hk)] at h2
      have h3' : gs[k]? = some g' := by rwa [List.getElem?_append_left (by rw [h.leng, ← h.lenv]; exact hk)] at h3
      have hrow := h.rows k v' xs' g' h1' h2' h3'
      exact ⟨hrow.1.grown hgr (Rows2.outer_ne hV hrow.1), hrow.2⟩
    · have hk' : k = vs.length := by
        have := (List.getElem?_eq_some_iff.1 h1).1
        simp at this
        omega
      subst hk'
      rw [List.getElem?_append_right (Nat.le_refl _)] at h1
      rw [h.lenv, List.getElem?_append_right (Nat.le_refl _)] at h2
      rw [h.lenv, ← h.leng, List.getElem?_append_right (Nat.le_refl _)] at h3
      simp at h1 h2 h3
      subst h1 h2 h3
      exact ⟨hr.grown hgr (Rows2.outer_ne hV hr), hg⟩
  · rw [List.pairwise_append]
    exact ⟨h.asc, by simp, fun x hx y hy => by simp at hy; subst hy; exact hasc x hx⟩

theorem Rows2.slice {w : World} {base : Nat} {V : Value} {gs : List Nat} {vs : List Value} {xss : List (List Int)} (h : Rows2 w base V gs vs xss) : ∃ A c, V = .slice A xss.length c := by
  rcases h.outer.2 with ⟨e, hn⟩ | ⟨g, cap, cur, e, _⟩
  · exact ⟨none, 0, by rw [e, ← h.lenv, hn]⟩
  · exact ⟨_, _, by rw [e, h.lenv]⟩
theorem Rows2.cell {w : World} {base : Nat} {A : Option Addr} {n c : Nat} {gs : List Nat} {vs : List Value} {xss : List (List Int)} (h : Rows2 w base (.slice A n c) gs vs xss) {k : Nat} (hk : k < xss.length) :
    ∃ g0 gk ck xs, A = some ⟨g0, 0, none⟩ ∧ g0 < w.heap.size ∧ w.cell? ⟨g0, k, none⟩ = some (.slice (some ⟨gk, 0, none⟩) xs.length ck) ∧ IO w gk (some ⟨gk, 0, none⟩) ck xs ∧
      Bx (xss[k]? = some xs ∧ gs[k]? = some gk) ∧ base ≤ gk := by
  have h1 := List.getElem?_eq_getElem (l := vs) (i := k) (by rw [h.lenv]; exact hk)
  have h2 := List.getElem?_eq_getElem (l := xss) (i := k) hk
  have h3 := List.getElem?_eq_getElem (l := gs) (i := k) (by rw [h.leng]; exact hk)
  obtain ⟨⟨ck, hv, hio⟩, hb⟩ := h.rows k _ _ _ h1 h2 h3
  rcases h.outer.2 with ⟨_, hn⟩ | ⟨g, cap, cur, e, hg, hh, _, _, _, ht⟩
  · have := h.lenv; omega
  · injection e with e _ _
    subst e
    refine ⟨g, _, ck, _, rfl, heap_lt hh, ?_, hio, ⟨h2, h3⟩, hb⟩
    rw [cell_of_row w g k cur _ (0, 0) hh]
    have := congrArg (fun l => l[k]?) ht
    simp only [h1, hv] at this
    rw [List.getElem?_take] at this
    split at this
    · simpa using this
    · cases this
theorem Rows2.setRow {w w' : World} {base k g c : Nat} {V : Value} {gs : List Nat} {vs : List Value} {xss : List (List Int)} {xs ys : List Int} (h : Rows2 w base V gs vs xss) (hx : xss[k]? = some xs) (hg : gs[k]? = some g)
    (hio : IO w' g (some ⟨g, 0, none⟩) c ys) (hv : vs[k]? = some (.slice (some ⟨g, 0, none⟩) ys.length c)) (ho : Only w w' (some ⟨g, 0, none⟩)) : Rows2 w' base V gs vs (xss.set k ys) := by
  have hrow := h.rows k _ _ _ hv hx hg
  have hout : some g ≠ V.ownBlock := Rows2.outer_ne h.outer hrow.1
  refine ⟨?_, by simp [h.lenv], by simp [h.leng], fun j v' xs' g' h1 h2 h3 => ?_, h.asc⟩
  · refine ⟨h.outer.1, ?_⟩
    rcases h.outer.2 with h' | ⟨g', cap, cur, e, hg', hh, r⟩
    · exact .inl h'
    · refine .inr ⟨g', cap, cur, e, hg', (ho.block g' (heap_lt hh) ?_).trans hh, r⟩
      intro e'
      rw [e] at hout
      simp at e'
      simp [Value.ownBlock] at hout
      omega
  · by_cases hj : j = k
    · subst hj
      rw [List.getElem?_set_self (List.getElem?_eq_some_iff.1 hx).1] at h2
      rw [hv] at h1
      rw [hg] at h3
      injection h1 with h1; injection h2 with h2; injection h3 with h3
      subst h1 h2 h3
      exact ⟨⟨c, rfl, hio⟩, hrow.2⟩
    · rw [List.getElem?_set_ne (Ne.symm hj)] at h2
      have hr := h.rows j v' xs' g' h1 h2 h3
      refine ⟨hr.1.same (ho.block g' hr.1.lt ?_), hr.2⟩
      intro e'
      simp at e'
      subst e'
      have hjl := (List.getElem?_eq_some_iff.1 h3).1
      have hkl := (List.getElem?_eq_some_iff.1 hg).1
      have e1 := (List.getElem?_eq_some_iff.1 h3).2
      have e2 := (List.getElem?_eq_some_iff.1 hg).2
      have := List.pairwise_iff_getElem.1 h.asc
      rcases Nat.lt_or_ge j k with hlt | hge
      · have := this j k hjl hkl hlt; omega
      · have := this k j hkl hjl (by omega); omega

theorem Rows2.vcell {w : World} {base k g0 g n0 c0 n1 ck : Nat} {gs : List Nat} {vs : List Value} {xss : List (List Int)} {xs : List Int} (h : Rows2 w base (.slice (some ⟨g0, 0, none⟩) n0 c0) gs vs xss) (hx : xss[k]? = some xs) (_hg : gs[k]? = some g)
    (hc : w.cell? ⟨g0, k, none⟩ = some (.slice (some ⟨g, 0, none⟩) n1 ck)) : vs[k]? = some (.slice (some ⟨g, 0, none⟩) n1 ck) := by
  have hk := (List.getElem?_eq_some_iff.1 hx).1
  have h1 := List.getElem?_eq_getElem (l := vs) (i := k) (by rw [h.lenv]; exact hk)
  rcases h.outer.2 with ⟨e, _⟩ | ⟨g', cap, cur, e, hg', hh, _, _, _, ht⟩
  · cases e
  · injection e with e _ _
    injection e with e
    injection e with e
    subst e
    rw [cell_of_row w g0 k cur _ (0, 0) hh] at hc
    rw [← ht, List.getElem?_take, if_pos (by rw [h.lenv]; omega)]
    simpa using hc
end Go.Proofs.Ytgfdmjhdfddopaa
