/- Rows of rhythms, and the law's helpers on them. -/
import Derived.Test.YtikifkbgmniobaaGreatEqSS
import Derived.Test.YtikifkbgmniobaaGreatCms
import Derived.Test.YtikifkbgmniobaaGreatLws
import Derived.Test.YtikifkbgmniobaaGreatBas
import Derived.Deep.RegionHeld3
import Derived.Deep.DeepCutAuto
namespace Go.Proofs.YtikifkbgmniobaaGreat
open Go.RowKit
set_option maxRecDepth 20000

def flatR : List Int → List Value → List Value
  | s :: ss, v :: vs => .int .i64 s :: v :: flatR ss vs
  | _, _ => []
theorem flatR_len : ∀ (ss : List Int) (vs : List Value), ss.length = vs.length → (flatR ss vs).length = vs.length * 2
  | [], [], _ => rfl
  | [], _ :: _, h => by simp at h
  | _ :: _, [], h => by simp at h
  | s :: ss, v :: vs, h => by
    have := flatR_len ss vs (by simpa using h)
    simp only [flatR, List.length_cons, this]; omega
theorem flatR_at : ∀ (ss : List Int) (vs : List Value) (k : Nat), ss.length = vs.length → (flatR ss vs)[k * 2]? = (ss[k]?).map (Value.int .i64) ∧ (flatR ss vs)[k * 2 + 1]? = vs[k]?
  | [], [], k, _ => by simp [flatR]
  | [], _ :: _, _, h => by simp at h
  | _ :: _, [], _, h => by simp at h
  | s :: ss, v :: vs, 0, _ => by simp [flatR]
  | s :: ss, v :: vs, k + 1, h => by
    have := flatR_at ss vs k (by simpa using h)
    rw [show (k + 1) * 2 = k * 2 + 1 + 1 by omega, show (k * 2 + 1 + 1 + 1) = (k * 2 + 1) + 1 + 1 by omega]
    simp only [flatR, List.getElem?_cons_succ]
    exact this
theorem flatR_app : ∀ (ss : List Int) (vs : List Value) (s : Int) (v : Value), ss.length = vs.length → flatR (ss ++ [s]) (vs ++ [v]) = flatR ss vs ++ [.int .i64 s, v]
  | [], [], _, _, _ => rfl
  | [], _ :: _, _, _, h => by simp at h
  | _ :: _, [], _, _, h => by simp at h
  | s :: ss, v :: vs, t, u, h => by
    have := flatR_app ss vs t u (by simpa using h)
    simp only [List.cons_append, flatR, this]
theorem flatR_set : ∀ (ss : List Int) (vs : List Value) (k : Nat) (s : Int), ss.length = vs.length → (flatR ss vs).set (k * 2) (.int .i64 s) = flatR (ss.set k s) vs
  | [], [], _, _, _ => by simp [flatR]
  | [], _ :: _, _, _, h => by simp at h
  | _ :: _, [], _, _, h => by simp at h
  | s :: ss, v :: vs, 0, t, _ => by simp [flatR]
  | s :: ss, v :: vs, k + 1, t, h => by
    have := flatR_set ss vs k t (by simpa using h)
    rw [show (k + 1) * 2 = k * 2 + 1 + 1 by omega]
    simp only [flatR, List.set_cons_succ, this]
/-- the outer row V of rhythms: the sizes ss, the slices ws, each a row of ints in a block of its own -/
structure RowsR (w : World) (base : Nat) (V : Value) (ss : List Int) (ws : List Value) (gs : List Nat) (xss : List (List Int)) : Prop where
  outer : w.ownsRow base 26 2 V ws.length (flatR ss ws)
  lens : ss.length = ws.length
  lenv : ws.length = xss.length
  leng : gs.length = xss.length
  rows : ∀ (k : Nat) (v : Value) (xs : List Int) (g : Nat), ws[k]? = some v → xss[k]? = some xs → gs[k]? = some g → RowAt w g v xs ∧ base ≤ g
  asc : gs.Pairwise (· < ·)
theorem RowsR.start (w : World) (base : Nat) : RowsR w base (.slice none 0 0) [] [] [] [] :=
  ⟨World.ownsRow_nil w base _ _, rfl, rfl, rfl, fun k v xs g h => by simp at h, List.Pairwise.nil⟩
theorem RowsR.below {w w' : World} {base : Nat} {V : Value} {ss : List Int} {gs : List Nat} {ws : List Value} {xss : List (List Int)} (h : RowsR w base V ss ws gs xss) {B : Nat} (hb : Below B w w') (hB : w.heap.size ≤ B) : RowsR w' base V ss ws gs xss := by
  refine ⟨own_below h.outer hb hB, h.lens, h.lenv, h.leng, fun k v xs g h1 h2 h3 => ?_, h.asc⟩
  have := h.rows k v xs g h1 h2 h3
  exact ⟨this.1.below hb (Nat.lt_of_lt_of_le this.1.lt hB), this.2⟩
theorem RowsR.base_le {w : World} {base b : Nat} {V : Value} {ss : List Int} {gs : List Nat} {ws : List Value} {xss : List (List Int)} (h : RowsR w base V ss ws gs xss) (hb : b ≤ base) : RowsR w b V ss ws gs xss := by
  refine ⟨⟨h.outer.1, ?_⟩, h.lens, h.lenv, h.leng, fun k v xs g h1 h2 h3 => ?_, h.asc⟩
  · rcases h.outer.2 with h' | ⟨g, cap, cur, e, hg, r⟩
    · exact .inl h'
    · exact .inr ⟨g, cap, cur, e, Nat.le_trans hb hg, r⟩
  · have := h.rows k v xs g h1 h2 h3
    exact ⟨this.1, Nat.le_trans hb this.2⟩
theorem RowsR.outer_ne {w : World} {base g n : Nat} {V v : Value} {vs : List Value} {xs : List Int} (h : w.ownsRow base 26 2 V n vs) (hr : RowAt w g v xs) : some g ≠ V.ownBlock := by
  rcases h.2 with ⟨e, _⟩ | ⟨g', cap, cur, e, hg, hh, r⟩
  · rw [e]; simp [Value.ownBlock]
  · rw [e]
    intro e'
    simp [Value.ownBlock] at e'
    subst e'
    obtain ⟨cs, hc⟩ := hr.elem
    rw [hc] at hh
    simp at hh
theorem RowsR.lt {w : World} {base : Nat} {V : Value} {ss : List Int} {gs : List Nat} {ws : List Value} {xss : List (List Int)} (h : RowsR w base V ss ws gs xss) : ∀ x ∈ gs, x < w.heap.size := by
  intro x hx
  obtain ⟨k, hk, rfl⟩ := List.getElem_of_mem hx
  have hl := h.leng
  have h2 := List.getElem?_eq_getElem (l := xss) (i := k) (by omega)
  have h1 := List.getElem?_eq_getElem (l := ws) (i := k) (by rw [h.lenv]; omega)
  exact (h.rows k _ _ _ h1 h2 (List.getElem?_eq_getElem hk)).1.lt
theorem RowsR.push {w w' : World} {base g : Nat} {V V' v : Value} {s : Int} {ss : List Int} {gs : List Nat} {ws : List Value} {xss : List (List Int)} {xs : List Int} (h : RowsR w base V ss ws gs xss) (hr : RowAt w g v xs) (hg : base ≤ g)
    (hasc : ∀ x ∈ gs, x < g) (ho : w'.ownsRow base 26 2 V' (ws.length + 1) (flatR ss ws ++ [.int .i64 s, v])) (hgr : w.grownBy w' V.ownBlock) : RowsR w' base V' (ss ++ [s]) (ws ++ [v]) (gs ++ [g]) (xss ++ [xs]) := by
  have hV := h.outer
  refine ⟨by rw [flatR_app _ _ _ _ h.lens]; simpa using ho, by simp [h.lens], by simp [h.lenv], by simp [h.leng], fun k v' xs' g' h1 h2 h3 => ?_, ?_⟩
  · by_cases hk : k < ws.length
    · have h1' : ws[k]? = some v' := by rwa [List.getElem?_append_left hk] at h1
      have h2' : xss[k]? = some xs' := by rwa [List.getElem?_append_left (by rw [← h.lenv]; exact hk)] at h2
      have h3' : gs[k]? = some g' := by rwa [List.getElem?_append_left (by rw [h.leng, ← h.lenv]; exact hk)] at h3
      have hrow := h.rows k v' xs' g' h1' h2' h3'
      exact ⟨hrow.1.grown hgr (RowsR.outer_ne hV hrow.1), hrow.2⟩
    · have hk' : k = ws.length := by
        have := (List.getElem?_eq_some_iff.1 h1).1
        simp at this
        omega
      subst hk'
      rw [List.getElem?_append_right (Nat.le_refl _)] at h1
      rw [h.lenv, List.getElem?_append_right (Nat.le_refl _)] at h2
      rw [h.lenv, ← h.leng, List.getElem?_append_right (Nat.le_refl _)] at h3
      simp at h1 h2 h3
      subst h1 h2 h3
      exact ⟨hr.grown hgr (RowsR.outer_ne hV hr), hg⟩
  · rw [List.pairwise_append]
    exact ⟨h.asc, by simp, fun x hx y hy => by simp at hy; subst hy; exact hasc x hx⟩
theorem RowsR.slice {w : World} {base : Nat} {V : Value} {ss : List Int} {gs : List Nat} {ws : List Value} {xss : List (List Int)} (h : RowsR w base V ss ws gs xss) : ∃ A c, V = .slice A xss.length c := by
  rcases h.outer.2 with ⟨e, hn⟩ | ⟨g, cap, cur, e, _⟩
  · exact ⟨none, 0, by rw [e, ← h.lenv, hn]⟩
  · exact ⟨_, _, by rw [e, h.lenv]⟩
theorem RowsR.cell {w : World} {base : Nat} {A : Option Addr} {n c : Nat} {ss : List Int} {gs : List Nat} {ws : List Value} {xss : List (List Int)} (h : RowsR w base (.slice A n c) ss ws gs xss) {k : Nat} (hk : k < xss.length) :
    ∃ g0 gk ck s xs, A = some ⟨g0, 0, none⟩ ∧ g0 < w.heap.size ∧ w.cell? ⟨g0, k * 2, none⟩ = some (.int .i64 s) ∧ w.cell? ⟨g0, k * 2 + 1, none⟩ = some (.slice (some ⟨gk, 0, none⟩) xs.length ck) ∧ IO w gk (some ⟨gk, 0, none⟩) ck xs ∧
      Bx (ss[k]? = some s ∧ xss[k]? = some xs ∧ gs[k]? = some gk ∧ ws[k]? = some (.slice (some ⟨gk, 0, none⟩) xs.length ck)) ∧ base ≤ gk ∧ base ≤ g0 ∧ w.frozen? ⟨g0, k * 2, none⟩ = false := by
  have h1 := List.getElem?_eq_getElem (l := ws) (i := k) (by rw [h.lenv]; exact hk)
  have h2 := List.getElem?_eq_getElem (l := xss) (i := k) hk
  have h3 := List.getElem?_eq_getElem (l := gs) (i := k) (by rw [h.leng]; exact hk)
  have h4 := List.getElem?_eq_getElem (l := ss) (i := k) (by rw [h.lens, h.lenv]; exact hk)
  obtain ⟨⟨ck, hv, hio⟩, hb⟩ := h.rows k _ _ _ h1 h2 h3
  have hf := flatR_at ss ws k h.lens
  rcases h.outer.2 with ⟨_, hn⟩ | ⟨g, cap, cur, e, hg, hh, _, _, _, ht⟩
  · have := h.lenv; omega
  · injection e with e _ _
    subst e
    have hc : ∀ j, j < ws.length * 2 → w.cell? ⟨g, j, none⟩ = (flatR ss ws)[j]? := fun j hj => by
      rw [cell_of_row w g j cur _ (0, 0) hh, ← ht, List.getElem?_take, if_pos hj]
      simp
    have hl := h.lenv
    refine ⟨g, _, ck, ss[k]'(by rw [h.lens, h.lenv]; exact hk), _, rfl, heap_lt hh, ?_, ?_, hio, ⟨h4, h2, h3, by rw [h1, hv]⟩, hb, hg, ?_⟩
    · rw [hc _ (by omega), hf.1, h4]; rfl
    · rw [hc _ (by omega), hf.2, h1, hv]
    · simp [World.frozen?, hh]
theorem RowsR.setSize {w : World} {base g n c k : Nat} {s : Int} {ss : List Int} {gs : List Nat} {ws : List Value} {xss : List (List Int)} (h : RowsR w base (.slice (some ⟨g, 0, none⟩) n c) ss ws gs xss) (_hk : k < xss.length) :
    RowsR (w.setCell ⟨g, k * 2, none⟩ (.int .i64 s)) base (.slice (some ⟨g, 0, none⟩) n c) (ss.set k s) ws gs xss := by
  have hl := h.lenv
  refine ⟨⟨by rw [flatR_len _ _ (by simp [h.lens])], ?_⟩, by simp [h.lens], h.lenv, h.leng, fun j v xs gj h1 h2 h3 => ?_, h.asc⟩
  · rcases h.outer.2 with ⟨e, _⟩ | ⟨g', cap, cur, e, hg, hh, h1, h2, h3, ht⟩
    · cases e
    · injection e with e e1 e2
      injection e with e
      injection e with e
      subst e e1 e2
      refine .inr ⟨g, c, cur.setIfInBounds (k * 2) (.int .i64 s), rfl, hg, ?_, h1, h2, by simpa using h3, ?_⟩
      · simp [World.setCell, Array.getElem?_modify, hh]
      · rw [← flatR_set _ _ _ _ h.lens, ← ht]
        simp [List.take_set]
  · have hr := h.rows j v xs gj h1 h2 h3
    refine ⟨hr.1.same (Below.heap_setCell w _ _ _ ?_), hr.2⟩
    have := RowsR.outer_ne h.outer hr.1
    intro e
    apply this
    simp [Value.ownBlock]
    exact e
theorem RowsR.setRow {w w' : World} {base k g c : Nat} {V : Value} {ss : List Int} {gs : List Nat} {ws : List Value} {xss : List (List Int)} {xs ys : List Int} (h : RowsR w base V ss ws gs xss) (hx : xss[k]? = some xs) (hg : gs[k]? = some g)
    (hio : IO w' g (some ⟨g, 0, none⟩) c ys) (hv : ws[k]? = some (.slice (some ⟨g, 0, none⟩) ys.length c)) (ho : Only w w' (some ⟨g, 0, none⟩)) : RowsR w' base V ss ws gs (xss.set k ys) := by
  have hrow := h.rows k _ _ _ hv hx hg
  have hout : some g ≠ V.ownBlock := RowsR.outer_ne h.outer hrow.1
  refine ⟨?_, h.lens, by simp [h.lenv], by simp [h.leng], fun j v' xs' g' h1 h2 h3 => ?_, h.asc⟩
  · refine ⟨h.outer.1, ?_⟩
    rcases h.outer.2 with h' | ⟨g', cap, cur, e, hg', hh, r⟩
    · exact .inl h'
    · refine .inr ⟨g', cap, cur, e, hg', (ho.block g' (heap_lt hh) ?_).trans hh, r⟩
      intro e'
      rw [e] at hout
      simp at e'
      simp [Value.ownBlock] at hout
      omega
  · by_cases hj : j = k
    · subst hj
      rw [List.getElem?_set_self (List.getElem?_eq_some_iff.1 hx).1] at h2
      rw [hv] at h1
      rw [hg] at h3
      injection h1 with h1; injection h2 with h2; injection h3 with h3
      subst h1 h2 h3
      exact ⟨⟨c, rfl, hio⟩, hrow.2⟩
    · rw [List.getElem?_set_ne (Ne.symm hj)] at h2
      have hr := h.rows j v' xs' g' h1 h2 h3
      refine ⟨hr.1.same (ho.block g' hr.1.lt ?_), hr.2⟩
      intro e'
      simp at e'
      subst e'
      have hjl := (List.getElem?_eq_some_iff.1 h3).1
      have hkl := (List.getElem?_eq_some_iff.1 hg).1
      have e1 := (List.getElem?_eq_some_iff.1 h3).2
      have e2 := (List.getElem?_eq_some_iff.1 hg).2
      have := List.pairwise_iff_getElem.1 h.asc
      rcases Nat.lt_or_ge j k with hlt | hge
      · have := this j k hjl hkl hlt; omega
      · have := this k j hkl hjl (by omega); omega
/-- V reads as rhythms of the size n with the beats xss, all below the block hi -/
def RdR (w : World) (hi : Nat) (V : Value) (n : Int) (xss : List (List Int)) : Prop :=
  ∃ A c, V = .slice A xss.length c ∧ ∀ (k : Nat) (xs : List Int), xss[k]? = some xs → ∃ g B cB, A = some ⟨g, 0, none⟩ ∧ g < hi ∧ g < w.heap.size ∧ w.cell? ⟨g, k * 2, none⟩ = some (.int .i64 n) ∧ w.cell? ⟨g, k * 2 + 1, none⟩ = some (.slice B xs.length cB) ∧ RB 0 hi w B xs
theorem RdR.below {w w' : World} {hi B : Nat} {V : Value} {n : Int} {xss : List (List Int)} (h : RdR w hi V n xss) (hb : Below B w w') (hB : hi ≤ B) : RdR w' hi V n xss := by
  obtain ⟨A, c, e, hr⟩ := h
  refine ⟨A, c, e, fun k xs hk => ?_⟩
  obtain ⟨g, B', cB, e1, h1, h2, h3, h4, h5⟩ := hr k xs hk
  exact ⟨g, B', cB, e1, h1, Nat.lt_of_lt_of_le h2 hb.size, (hb.cell (p := ⟨g, k * 2, none⟩) (show g < B by omega)).trans h3, (hb.cell (p := ⟨g, k * 2 + 1, none⟩) (show g < B by omega)).trans h4, h5.below hb hB⟩
theorem RdR.only {hi lo' hi' c' : Nat} {w w' : World} {A' : Option Addr} {xs' : List Int} {V : Value} {n : Int} {xss : List (List Int)} (h : RdR w hi V n xss) (o : Only w w' A') (k : OB lo' hi' w A' c' xs') (hd : hi ≤ lo') : RdR w' hi V n xss := by
  obtain ⟨A, c, e, hr⟩ := h
  refine ⟨A, c, e, fun i xs hk => ?_⟩
  obtain ⟨g, B', cB, e1, h1, h2, h3, h4, h5⟩ := hr i xs hk
  exact ⟨g, B', cB, e1, h1, Nat.lt_of_lt_of_le h2 o.size, (k.cell o h2 (by omega)).trans h3, (k.cell o h2 (by omega)).trans h4, h5.only o k (by omega)⟩
theorem RowsR.rd {w : World} {base : Nat} {V : Value} {n : Int} {gs : List Nat} {ws : List Value} {xss : List (List Int)} (h : RowsR w base V (xss.map fun _ => n) ws gs xss) : RdR w w.heap.size V n xss := by
  obtain ⟨A, c, rfl⟩ := h.slice
  refine ⟨A, c, rfl, fun k xs hk => ?_⟩
  obtain ⟨g0, gk, ck, s, ys, h1, h2, h3, h4, h5, h6, h7, _⟩ := h.cell (List.getElem?_eq_some_iff.1 hk).1
  have e1 := h6.out.2.1
  rw [hk] at e1
  injection e1 with e1
  subst e1
  have e2 := h6.out.1
  rw [List.getElem?_map, hk] at e2
  injection e2 with e2
  subst e2
  exact ⟨g0, _, ck, h1, h2, h2, h3, h4, RB.of_ir h5.reads⟩
def mkS : Int → List (List Int) → List Int
  | _, [] => []
  | k, xs :: r => k :: mkS (k + 1 + xs.length) r
def mkR : Int → List (List Int) → List (List Int)
  | _, [] => []
  | k, xs :: r => marksFrom (k + 1) xs.length :: mkR (k + 1 + xs.length) r
def totR : List (List Int) → Nat
  | [] => 0
  | xs :: r => 1 + xs.length + totR r
theorem mkR_len (k : Int) (xss : List (List Int)) : (mkR k xss).length = xss.length := by
  induction xss generalizing k with
  | nil => rfl
  | cons xs r ih => simp [mkR, ih]
theorem mkS_len (k : Int) (xss : List (List Int)) : (mkS k xss).length = xss.length := by
  induction xss generalizing k with
  | nil => rfl
  | cons xs r ih => simp [mkS, ih]
theorem totR_take (xss : List (List Int)) : ∀ (i : Nat) (xs : List Int), xss[i]? = some xs → totR (xss.take (i + 1)) = totR (xss.take i) + 1 + xs.length := by
  induction xss with
  | nil => intro i xs h; simp at h
  | cons ys r ih =>
    intro i xs h
    cases i with
    | zero => simp at h; subst h; simp [totR]
    | succ i => simp at h; simp only [List.take_succ_cons, totR]; rw [ih i xs h]; omega
theorem mkR_set (xss : List (List Int)) : ∀ (k : Int) (i : Nat) (xs : List Int), xss[i]? = some xs →
    (mkR k (xss.take i) ++ xss.drop i).set i (marksFrom (k + totR (xss.take i) + 1) xs.length) = mkR k (xss.take (i + 1)) ++ xss.drop (i + 1) := by
  induction xss with
  | nil => intro k i xs h; simp at h
  | cons ys r ih =>
    intro k i xs h
    cases i with
    | zero => simp at h; subst h; simp [mkR, totR]
    | succ i =>
      simp at h
      have := ih (k + 1 + ys.length) i xs h
      simp only [List.take_succ_cons, List.drop_succ_cons, mkR, totR, List.cons_append, List.set_cons_succ]
      rw [← this]
      congr 3
      omega
theorem mkS_set (xss : List (List Int)) : ∀ (k : Int) (i : Nat) (ss : List Int), ss.length = xss.length → i < xss.length →
    (mkS k (xss.take i) ++ ss.drop i).set i (k + totR (xss.take i)) = mkS k (xss.take (i + 1)) ++ ss.drop (i + 1) := by
  induction xss with
  | nil => intro k i ss h h1; simp at h1
  | cons ys r ih =>
    intro k i ss h h1
    cases ss with
    | nil => simp at h
    | cons s ss =>
      cases i with
      | zero => simp [mkS, totR]
      | succ i =>
        simp at h h1
        have := ih (k + 1 + ys.length) i ss h h1
        simp only [List.take_succ_cons, List.drop_succ_cons, mkS, totR, List.cons_append, List.set_cons_succ]
        rw [← this]
        congr 2
        omega
theorem mkR_at (xss : List (List Int)) (k : Int) (i : Nat) : (mkR k (xss.take i) ++ xss.drop i)[i]? = xss[i]? := by
  by_cases h : i ≤ xss.length
  · rw [List.getElem?_append_right (by rw [mkR_len, List.length_take]; omega), mkR_len, List.length_take, Nat.min_eq_left h, List.getElem?_drop]
    simp
  · rw [List.getElem?_eq_none (by simp [mkR_len]; omega), List.getElem?_eq_none (by omega)]
theorem mkR_get (xss : List (List Int)) : ∀ (k : Int) (i : Nat) (xs : List Int), xss[i]? = some xs → (mkR k xss)[i]? = some (marksFrom (k + totR (xss.take i) + 1) xs.length) ∧ (mkS k xss)[i]? = some (k + totR (xss.take i)) := by
  induction xss with
  | nil => intro k i xs h; simp at h
  | cons ys r ih =>
    intro k i xs h
    cases i with
    | zero => simp at h; subst h; simp [mkR, mkS, totR]
    | succ i =>
      simp at h
      have := ih (k + 1 + ys.length) i xs h
      simp only [mkR, mkS, List.getElem?_cons_succ, this.1, this.2, List.take_succ_cons, totR]
      constructor
      · congr 2; omega
      · congr 1; omega
/-- the lists are short: no count over them wraps -/
structure ShortR (xss : List (List Int)) : Prop where
  one : ∀ (i : Nat) (xs : List Int), xss[i]? = some xs → xs.length ≤ 1000000
  tot : ∀ i, totR (xss.take i) ≤ 100000000
  len : xss.length ≤ 1000000
theorem io_off' {w : World} {base c g g' i : Nat} {xs : List Int} {v : Value} (h : IO w base (some ⟨g, 0, none⟩) c xs) (hne : g ≠ g') : IO (w.setCell ⟨g', i, none⟩ v) base (some ⟨g, 0, none⟩) c xs := by
  refine ⟨h.1, h.2.1, ?_⟩
  rcases h.2.2 with ⟨e, _⟩ | ⟨g2, cur, e, hg, hh, r⟩
  · cases e
  · injection e with e; injection e with e
    subst e
    exact .inr ⟨g, cur, rfl, hg, (Below.heap_setCell w ⟨g', i, none⟩ v g (by intro e; simp at e; omega)).trans hh, r⟩
/-- as RowsR, all blocks below hi -/
def OR (lo hi : Nat) (w : World) (V : Value) (ss : List Int) (ws : List Value) (gs : List Nat) (xss : List (List Int)) : Prop := RowsR w lo V ss ws gs xss ∧ (∀ k, V.ownBlock = some k → k < hi) ∧ ∀ g ∈ gs, g < hi
theorem OR.rows {lo hi : Nat} {w : World} {V : Value} {ss : List Int} {ws : List Value} {gs : List Nat} {xss : List (List Int)} (h : OR lo hi w V ss ws gs xss) : RowsR w lo V ss ws gs xss := h.1
theorem OR.of {lo hi : Nat} {w : World} {V : Value} {ss : List Int} {ws : List Value} {gs : List Nat} {xss : List (List Int)} (h : RowsR w lo V ss ws gs xss) (hw : w.heap.size ≤ hi) : OR lo hi w V ss ws gs xss :=
  ⟨h, fun k hk => Nat.lt_of_lt_of_le (h.outer.lt k hk).2 hw, fun g hg => Nat.lt_of_lt_of_le (h.lt g hg) hw⟩
theorem OR.marked {lo hi : Nat} {w w' : World} {V : Value} {ss ss' : List Int} {ws : List Value} {gs : List Nat} {xss xss' : List (List Int)} (h : OR lo hi w V ss ws gs xss) (h' : RowsR w' lo V ss' ws gs xss') : OR lo hi w' V ss' ws gs xss' := ⟨h', h.2⟩
theorem OR.keep {lo hi : Nat} {w w' : World} {V : Value} {ss : List Int} {ws : List Value} {gs : List Nat} {xss : List (List Int)} (h : OR lo hi w V ss ws gs xss) (hb : ∀ k, lo ≤ k → k < hi → k < w.heap.size → w'.heap[k]? = w.heap[k]?) : OR lo hi w' V ss ws gs xss := by
  refine ⟨⟨⟨h.1.outer.1, ?_⟩, h.1.lens, h.1.lenv, h.1.leng, fun k v xs g h1 h2 h3 => ?_, h.1.asc⟩, h.2⟩
  · rcases h.1.outer.2 with h' | ⟨g, cap, cur, e, hg, hh, r⟩
    · exact .inl h'
    · exact .inr ⟨g, cap, cur, e, hg, (hb g hg (h.2.1 g (by rw [e]; rfl)) (heap_lt hh)).trans hh, r⟩
  · have := h.1.rows k v xs g h1 h2 h3
    exact ⟨this.1.same (hb g this.2 (h.2.2 g (List.mem_of_getElem? h3)) this.1.lt), this.2⟩
theorem OR.below {lo hi B : Nat} {w w' : World} {V : Value} {ss : List Int} {ws : List Value} {gs : List Nat} {xss : List (List Int)} (h : OR lo hi w V ss ws gs xss) (hb : Below B w w') (hB : hi ≤ B) : OR lo hi w' V ss ws gs xss :=
  h.keep fun k _ h2 _ => hb.block k (by omega)
theorem OR.only {lo hi lo' hi' c' : Nat} {w w' : World} {A' : Option Addr} {xs' : List Int} {V : Value} {ss : List Int} {ws : List Value} {gs : List Nat} {xss : List (List Int)} (h : OR lo hi w V ss ws gs xss) (o : Only w w' A') (k : OB lo' hi' w A' c' xs') (hd : hi ≤ lo' ∨ hi' ≤ lo) : OR lo hi w' V ss ws gs xss :=
  h.keep fun j h1 h2 h3 => o.block j h3 (by
    intro e
    cases A' with
    | none => cases e
    | some x => injection e with e; have := k.1.ge x rfl; have := k.2 x rfl; simp at e; omega)
theorem OR.base {lo lo' hi : Nat} {w : World} {V : Value} {ss : List Int} {ws : List Value} {gs : List Nat} {xss : List (List Int)} (h : OR lo hi w V ss ws gs xss) (hl : lo' ≤ lo) : OR lo' hi w V ss ws gs xss := ⟨h.1.base_le hl, h.2⟩
end Go.Proofs.YtikifkbgmniobaaGreat
