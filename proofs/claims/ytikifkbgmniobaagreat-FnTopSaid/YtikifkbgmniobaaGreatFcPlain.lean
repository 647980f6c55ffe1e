/- Rows of rhythms that a search appends to. -/
import Derived.Test.YtikifkbgmniobaaGreatFind
import Derived.Test.YtikifkbgmniobaaGreatRowR
namespace Go.Proofs.YtikifkbgmniobaaGreat
open Go.RowKit
set_option maxRecDepth 20000

theorem flatR_cat : ∀ (ss : List Int) (vs : List Value) (ss' : List Int) (vs' : List Value), ss.length = vs.length → flatR (ss ++ ss') (vs ++ vs') = flatR ss vs ++ flatR ss' vs'
  | [], [], _, _, _ => rfl
  | [], _ :: _, _, _, h => by simp at h
  | _ :: _, [], _, _, h => by simp at h
  | s :: ss, v :: vs, t, u, h => by
    have := flatR_cat ss vs t u (by simpa using h)
    simp only [List.cons_append, flatR, this]
structure Fc (w : World) (base : Nat) (AV : Option Addr) (N : Nat) (vs : List Value) (n : Int) (L : List (List Int)) (AV' : Option Addr) (cV' : Nat) (ws : List Value) (w' : World) : Prop where
  own : w'.ownsRow base 26 2 (.slice AV' (N + L.length) cV') (N + L.length) (vs ++ flatR (L.map fun _ => n) ws)
  len : ws.length = L.length
  rows : ∀ (k : Nat) (v : Value) (ys : List Int), ws[k]? = some v → L[k]? = some ys → ∃ B cB, v = .slice B ys.length cB ∧ IR w' B ys ∧ (∀ x, B = some x → x.block < w'.heap.size) ∧ (∀ x y, B = some x → AV' = some y → x.block ≠ y.block)
  only : Only w w' AV
  fresh : ∀ y, AV' = some y → AV.map (·.block) = some y.block ∨ w.heap.size ≤ y.block
def GivesFc (w : World) (base : Nat) (AV : Option Addr) (N : Nat) (vs : List Value) (n : Int) (L : List (List Int)) (e : Ending) (w' : World) : Prop :=
  ∃ AV' cV' ws, e = .returned (.slice AV' (N + L.length) cV') ∧ Fc w base AV N vs n L AV' cV' ws w'
theorem Fc.nil {w w' : World} {base N c : Nat} {AV : Option Addr} {vs : List Value} {n : Int} (h : w'.ownsRow base 26 2 (.slice AV N c) N vs) (o : Only w w' AV) : Fc w base AV N vs n [] AV c [] w' :=
  ⟨by simpa [flatR] using h, rfl, fun k v ys h => by simp at h, o, fun y hy => .inl (by rw [hy]; rfl)⟩
theorem Fc.leaf {w W0 w' : World} {base N c g cap : Nat} {A AV : Option Addr} {vs : List Value} {n : Int} {S : List Int} (h : w'.ownsRow base 26 2 (.slice (some ⟨g, 0, none⟩) (N + 1) cap) (N + 1) (vs ++ [.int .i64 n, .slice A S.length c])) (hx : IR W0 A S)
    (hd : ∀ x y, A = some x → AV = some y → x.block ≠ y.block) (h0 : 0 < S.length) (_hz : w.heap.size ≤ W0.heap.size) (o : W0.grownBy w' (AV.map (·.block))) (hf : AV.map (·.block) = some g ∨ W0.heap.size ≤ g) (b : Below w.heap.size w W0) : Fc w base AV N vs n [S] (some ⟨g, 0, none⟩) cap [.slice A S.length c] w' := by
  have o' : Only W0 w' AV := o
  obtain ⟨b0, o0, e0, hb0, _⟩ := hx.at_ h0
  refine ⟨by simpa [flatR] using h, rfl, fun k v ys h1 h2 => ?_, (Only.of_below AV b).trans o', fun y hy => ?_⟩
  · cases k with
    | succ k => simp at h1
    | zero =>
      simp at h1 h2
      subst h1 h2
      refine ⟨A, c, rfl, hx.only o' hd, fun x hx' => ?_, fun x y hx' hy => ?_⟩
      · rw [e0] at hx'; injection hx' with hx'; subst hx'
        exact Nat.lt_of_lt_of_le hb0 o'.size
      · injection hy with hy
        subst hy
        rcases hf with hf | hf
        · cases hAV : AV with
          | none => rw [hAV] at hf; cases hf
          | some z =>
            rw [hAV] at hf
            have hz : z.block = g := by injection hf
            have := hd x z hx' hAV
            show x.block ≠ g
            omega
        · rw [e0] at hx'; injection hx' with hx'; subst hx'
          show b0 ≠ g
          omega
  · injection hy with hy
    subst hy
    have := b.size
    exact hf.imp id fun h => by show w.heap.size ≤ g; omega
theorem Fc.pre {w w4 w' : World} {base N c : Nat} {AV AV' : Option Addr} {vs ws : List Value} {n : Int} {L : List (List Int)} (h : Fc w4 base AV N vs n L AV' c ws w') (b : Below w.heap.size w w4) : Fc w base AV N vs n L AV' c ws w' :=
  ⟨h.own, h.len, h.rows, (Only.of_below AV b).trans h.only, fun y hy => (h.fresh y hy).imp id fun h => Nat.le_trans b.size h⟩
theorem fresh_then {A B C : Option Addr} {s s1 : Nat} (hs : s ≤ s1) (h1 : ∀ y, B = some y → A.map (·.block) = some y.block ∨ s ≤ y.block) (h2 : ∀ y, C = some y → B.map (·.block) = some y.block ∨ s1 ≤ y.block) : ∀ y, C = some y → A.map (·.block) = some y.block ∨ s ≤ y.block := by
  intro y hy
  rcases h2 y hy with h | h
  · cases hB : B with
    | none => rw [hB] at h; cases h
    | some z =>
      rw [hB] at h
      have hz : z.block = y.block := by injection h
      have := h1 z hB
      rw [hz] at this
      exact this
  · exact .inr (by omega)
theorem Fc.app {w w5 w9 : World} {base N c1 c2 : Nat} {AV AV1 AV2 : Option Addr} {vs ws1 ws2 : List Value} {n : Int} {L1 L2 : List (List Int)} (h : Fc w base AV N vs n L1 AV1 c1 ws1 w5)
    (k : Fc w5 base AV1 (N + L1.length) (vs ++ flatR (L1.map fun _ => n) ws1) n L2 AV2 c2 ws2 w9) : Fc w base AV N vs n (L1 ++ L2) AV2 c2 (ws1 ++ ws2) w9 := by
  refine ⟨?_, by simp [h.len, k.len], fun i v ys h1 h2 => ?_, h.only.then k.only h.fresh, fresh_then h.only.size h.fresh k.fresh⟩
  · have := k.own
    rw [List.append_assoc, ← flatR_cat _ _ _ _ (by simp [h.len]), ← List.map_append, Nat.add_assoc, ← List.length_append] at this
    exact this
  · by_cases hi : i < ws1.length
    · rw [List.getElem?_append_left hi] at h1
      rw [List.getElem?_append_left (by rw [← h.len]; exact hi)] at h2
      obtain ⟨B, cB, e, hr, hlt, hne⟩ := h.rows i v ys h1 h2
      refine ⟨B, cB, e, hr.only k.only hne, fun x hx => Nat.lt_of_lt_of_le (hlt x hx) k.only.size, fun x y hx hy => ?_⟩
      rcases k.fresh y hy with hf | hf
      · cases hA : AV1 with
        | none => rw [hA] at hf; cases hf
        | some z =>
          rw [hA] at hf
          have hz : z.block = y.block := by injection hf
          have := hne x z hx hA
          omega
      · have := hlt x hx
        omega
    · rw [List.getElem?_append_right (by omega)] at h1
      rw [List.getElem?_append_right (by rw [← h.len]; omega), ← h.len] at h2
      exact k.rows _ v ys h1 h2
theorem Fc.rd {w w' : World} {base c hi : Nat} {AV AV' : Option Addr} {ws : List Value} {n : Int} {L : List (List Int)} (h : Fc w base AV 0 [] n L AV' c ws w') (hw : w'.heap.size ≤ hi) : RdR w' hi (.slice AV' L.length c) n L := by
  have ho := h.own
  rw [Nat.zero_add, List.nil_append] at ho
  refine ⟨AV', c, rfl, fun k ys hk => ?_⟩
  have hkl := (List.getElem?_eq_some_iff.1 hk).1
  obtain ⟨B, cB, e, hr, hlt, hne⟩ := h.rows k _ ys (List.getElem?_eq_getElem (l := ws) (i := k) (by rw [h.len]; exact hkl)) hk
  have hf := flatR_at (L.map fun _ => n) ws k (by simp [h.len])
  rcases ho.2 with ⟨_, hn⟩ | ⟨g, cap, cur, e2, hg, hh, _, _, _, ht⟩
  · omega
  · injection e2 with e2
    subst e2
    have hc : ∀ j, j < L.length * 2 → w'.cell? ⟨g, j, none⟩ = (flatR (L.map fun _ => n) ws)[j]? := fun j hj => by
      rw [cell_of_row w' g j cur _ (0, 0) hh, ← ht, List.getElem?_take, if_pos hj]
      simp
    have hg' := heap_lt hh
    refine ⟨g, B, cB, rfl, by omega, hg', ?_, ?_, hr, fun h0 x hx => ⟨Nat.zero_le _, by have := hlt x hx; omega⟩⟩
    · rw [hc _ (by omega), hf.1, List.getElem?_map, hk]; rfl
    · rw [hc _ (by omega), hf.2, List.getElem?_eq_getElem (by rw [h.len]; exact hkl), e]
end Go.Proofs.YtikifkbgmniobaaGreat
