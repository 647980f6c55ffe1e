/- The partners that the reference finds lie in memory of the call's own. -/
import Derived.Test.YtikifkbgmniobaaGreatPtLT
import Derived.Test.YtikifkbgmniobaaGreatFindL
import Derived.Deep.DeepCutAuto
namespace Go.Proofs.YtikifkbgmniobaaGreat
open Go.RowKit
set_option maxRecDepth 20000

/-- a row of rhythms in memory of the call's own -/
def RdLo (w : World) (b : Nat) (A : Option Addr) (n : Int) (L : List (List Int)) : Prop :=
  ∀ (k : Nat) (ys : List Int), L[k]? = some ys → ∃ g B cB, A = some ⟨g, 0, none⟩ ∧ b ≤ g ∧ g < w.heap.size ∧ w.cell? ⟨g, k * 2, none⟩ = some (.int .i64 n) ∧ w.cell? ⟨g, k * 2 + 1, none⟩ = some (.slice B ys.length cB) ∧ IR w B ys ∧ ∀ x, B = some x → b ≤ x.block
def GivesRl (w : World) (n : Int) (L : List (List Int)) (e : Ending) (w' : World) : Prop := ∃ A c, e = .returned (.slice A L.length c) ∧ RdLo w' w.heap.size A n L ∧ Below w.heap.size w w'
theorem Fc.rdl {w w' : World} {base c b : Nat} {AV AV' : Option Addr} {ws : List Value} {n : Int} {L : List (List Int)} (h : Fc w base AV 0 [] n L AV' c ws w') (hlow : LowV base ws) (hb : b ≤ base) : RdLo w' b AV' n L := by
  have ho := h.own
  rw [Nat.zero_add, List.nil_append] at ho
  intro k ys hk
  have hkl := (List.getElem?_eq_some_iff.1 hk).1
  have hwk : k < ws.length := by rw [h.len]; exact hkl
  obtain ⟨B, cB, e, hr, hlt, hne⟩ := h.rows k _ ys (List.getElem?_eq_getElem (l := ws) (i := k) hwk) hk
  have hf := flatR_at (L.map fun _ => n) ws k (by simp [h.len])
  rcases ho.2 with ⟨_, hn⟩ | ⟨g, cap, cur, e2, hg, hh, _, _, _, ht⟩
  · omega
  · injection e2 with e2
    subst e2
    have hc : ∀ j, j < L.length * 2 → w'.cell? ⟨g, j, none⟩ = (flatR (L.map fun _ => n) ws)[j]? := fun j hj => by
      rw [cell_of_row w' g j cur _ (0, 0) hh, ← ht, List.getElem?_take, if_pos hj]
      simp
    have hg' := heap_lt hh
    refine ⟨g, B, cB, rfl, by omega, hg', ?_, ?_, hr, fun x hx => ?_⟩
    · rw [hc _ (by omega), hf.1, List.getElem?_map, hk]; rfl
    · rw [hc _ (by omega), hf.2, List.getElem?_eq_getElem hwk, e]
    · obtain ⟨B2, m2, c2, e3, h3⟩ := hlow _ (List.getElem_mem hwk)
      rw [e] at e3
      injection e3 with e4
      subst e4
      have := h3 x hx
      omega
set_option maxHeartbeats 2000000 in
theorem specPtListL_any (n : Nat) (A : Option Addr) (c : Nat) (xs : List Int) (w : World) (h12 : n ≤ 12) (hok : rhOk n xs = true) (hx : IR w A xs) :
    Calls Tryz.prog 50 #[.agg #[.int .i64 n, .slice A xs.length c]] w (GivesRl w n (ptL n xs (2 ^ n))) := by
  have hsb := (rhOk_iff.1 hok).1
  have hll := (rhOk_len hok).1
  have hn1 : 1 ≤ n := by omega
  have hs : -9223372036854775808 ≤ (n : Int) ∧ (n : Int) ≤ 9223372036854775807 := by omega
  have h12i : ¬ (n : Int) > 12 := by omega
  have none_ : (xs.length = 0 ∨ n % xs.length ≠ 0) → ptL n xs (2 ^ n) = [] := fun h => by
    unfold ptL
    rw [dn_none fun j _ => ?_]
    · rfl
    unfold ptP
    cases ht : tilesB n xs (bt n j) with
    | false => exact Bool.and_false _
    | true =>
      have h4 := tiles_len ht
      rcases h with h | h
      · rw [h, Nat.zero_mul] at h4; omega
      · exact absurd (by rw [← h4]; exact Nat.mul_mod_right _ _) h
  obtain ⟨W0, hW0⟩ : ∃ W0, W0 = w.alloc (.cells #[.int .i64 n, .slice A xs.length c] 26) := ⟨_, rfl⟩
  have bw : Below w.heap.size w W0 := by rw [hW0]; exact below_alloc _ _
  have hz : w.heap.size < W0.heap.size := by rw [hW0]; simp
  have k0 : W0.cell? ⟨w.heap.size, 0, none⟩ = some (.int .i64 n) := by rw [hW0]; simp [go_sem]
  have k1 : W0.cell? ⟨w.heap.size, 1, none⟩ = some (.slice A xs.length c) := by rw [hW0]; simp [go_sem]
  have HX := Bx.mk ((RB.of_ir hx).below bw (Nat.le_refl _))
  have HS := Bx.mk hs
  have HNO := Bx.mk none_
  clear hx hs none_
  by_cases h0 : xs.length = 0
  · have HR := Bx.mk (HNO.out (.inl h0))
    have h0b : (((xs.length : Int) == 0)) = true := by rw [beq_iff_eq]; omega
    clear h0
    go_enter Tryz.func50, Tryz.ntmps50
    go_wp2_with fail
    rw [← hW0]
    clear hW0
    refine (lit_b hok (specRhythmOk_any _ _ _ _ _ HS.out (by exact HX.out.ir))).mono ?_
    clear hok
    rintro e w1 ⟨rfl, b⟩
    replace k0 := ((bcell b).1 _ _ (by omega)).trans k0
    replace k1 := ((bcell b).1 _ _ (by omega)).trans k1
    replace hz := Nat.lt_of_lt_of_le hz b.size
    replace bw := bw.trans (b.mono bw.size)
    clear b
    have HB := Bx.mk (bw.alloc bw.size (.cells #[] 26))
    go_wp2_with fail
    go_ret
    rw [HR.out]
    exact ⟨_, _, rfl, fun k xs hk => by simp at hk, HB.out⟩
  · have h0b : (((xs.length : Int) == 0)) = false := by rw [beq_eq_false_iff_ne]; omega
    have hxn0 : ¬ xs.length = 0 := h0
    have hxi0 : ¬ (xs.length : Int) = 0 := by omega
    have hxe : xs ≠ [] := List.ne_nil_of_length_pos (by omega)
    obtain ⟨r, hr⟩ : ∃ r : Nat, r = n % xs.length := ⟨_, rfl⟩
    have hrt : (n : Int).tmod (xs.length : Int) = (r : Int) := by rw [hr]; exact (Int.ofNat_tmod n xs.length).symm
    by_cases hr0 : r = 0
    · have hrb : (((r : Int) != 0)) = false := by simp; omega
      have hdvd : n % xs.length = 0 := by omega
      have hd0 : drct n xs (bt n 0) = true := by
        rw [bt_zero]
        rw [drct_iff]
        intro i hi
        have hz0 : ∀ a, outC (n : Int) xs [] a = List.replicate (Int.toNat n) 0 := by
          intro a
          induction a with
          | zero => rfl
          | succ a ih => simp only [outC, List.length_nil, inC]; exact ih
        have : sumC (n : Int) xs [] = List.replicate (Int.toNat n) 0 := hz0 _
        rw [this]
        rw [List.getElem?_replicate]
        split <;> simp
      have HQ := Bx.mk (ptS_ptL hn1 (by omega) hok (by rw [← bt_zero (n := n)]; exact hd0))
      have hql : 0 + (ptS n xs n 0).length ≤ 100000 := by rw [HQ.out, ptL_len]; have := cu_le (ptP n xs) (2 ^ n); have := Nat.pow_le_pow_right (n := 2) (by omega) h12; omega
      have hpow : 2 ^ n ≤ 4096 := Nat.pow_le_pow_right (n := 2) (by omega) h12
      have HFD : Bx (∀ g w2 base, IR w2 A xs → w2.ownsRow base 26 2 (.slice (some ⟨g, 0, none⟩) 0 0) 0 [] → base ≤ w2.heap.size → (∀ x, A = some x → x.block ≠ g) →
          Calls Tryz.prog 70 #[.agg #[.int .i64 n, .slice A xs.length c], .agg #[.int .i64 n, .slice none 0 0], .slice (some ⟨g, 0, none⟩) 0 0, .int .i64 0, .bool false] w2 (GivesFl w2 base (some ⟨g, 0, none⟩) 0 [] n (ptS n xs n 0))) := ⟨fun g w2 base h1 h2 h3 h4 => by
        have := l09FindL_any n A c xs hn1 (by omega) hok (by omega) hdvd n 0 none 0 (some ⟨g, 0, none⟩) 0 0 [] base w2 (Nat.le_refl _) (Nat.dvd_zero _) (by omega) hd0 (.inl rfl) (fun _ => ⟨rfl, rfl⟩) h1 (by rw [bt_zero]; exact IR.nil _ _) h2 h3 (fun x hx => by cases hx) hql (fun x y hx hy => by injection hy with hy; subst hy; exact h4 x hx) (fun x y hx => by cases hx)
        rw [bt_zero, show (n : Int) - (n : Int) = 0 by omega] at this
        exact this⟩
      clear hql
      clear hr hr0 hdvd hd0 h0 hll hpow
      go_enter Tryz.func50, Tryz.ntmps50
      go_wp2_with fail
      rw [← hW0]
      clear hW0
      refine (lit_b hok (specRhythmOk_any _ _ _ _ _ HS.out (by exact HX.out.ir))).mono ?_
      clear hok
      rintro e w1 ⟨rfl, b⟩
      have hz0 : w.heap.size < W0.heap.size := hz
      have HAW : Bx (∀ x, A = some x → x.block ≠ w1.heap.size) := ⟨fun x hx => by
        obtain ⟨b', o', e, hb', _⟩ := HX.out.ir.at_ (by omega)
        rw [e] at hx; injection hx with hx; subst hx
        have := (HX.out.2 (by omega) _ e).2
        have := b.size
        simp at *
        omega⟩
      replace k0 := ((bcell b).1 _ _ (by omega)).trans k0
      replace k1 := ((bcell b).1 _ _ (by omega)).trans k1
      replace HX := Bx.mk (HX.out.below b (by omega))
      replace hz := Nat.lt_of_lt_of_le hz b.size
      replace bw := bw.trans (b.mono bw.size)
      clear b hz0
      obtain ⟨w2, hw2⟩ : ∃ w2, w2 = w1.alloc (.cells #[] 26) := ⟨_, rfl⟩
      have b2 : Below w1.heap.size w1 w2 := by rw [hw2]; exact below_alloc _ _
      have hown : w2.ownsRow w1.heap.size 26 2 (.slice (some ⟨w1.heap.size, 0, none⟩) 0 0) 0 [] := by
        rw [hw2]
        exact ⟨by simp, .inr ⟨w1.heap.size, 0, #[], rfl, Nat.le_refl _, heap_alloc_new w1 _, Nat.le_refl _, by unfold maxLen; omega, by simp, rfl⟩⟩
      have HOW := Bx.mk hown
      have HXI := Bx.mk (HX.out.below b2 (by omega)).ir
      have hzz := b2.size
      have bw2 := bw.trans (b2.mono bw.size)
      clear hown b2
      go_wp2_with fail
      rw [← hw2]
      clear hw2
      refine (HFD.out _ _ w1.heap.size (by exact HXI.out) (by exact HOW.out) (by omega) HAW.out).mono ?_
      rw [HQ.out]
      rintro e w3 ⟨AV, cV, ws, rfl, hF, hlow⟩
      have hrd := hF.rdl hlow (b := w.heap.size) (by omega)
      have ho := hF.only
      have HF := Bx.mk (And.intro hrd (bw2.trans (ho.below (B := w.heap.size) (by have := bw2.size; omega) (fun x hx => by injection hx with hx; subst hx; simp; omega))))
      clear ho hrd hF hlow
      go_wp2_with fail
      go_ret
      exact ⟨AV, cV, by simp, HF.out⟩
    · have HR := Bx.mk (HNO.out (.inr (by omega)))
      have hrb : (((r : Int) != 0)) = true := by simp; omega
      clear hr hr0 h0
      go_enter Tryz.func50, Tryz.ntmps50
      go_wp2_with fail
      rw [← hW0]
      clear hW0
      refine (lit_b hok (specRhythmOk_any _ _ _ _ _ HS.out (by exact HX.out.ir))).mono ?_
      clear hok
      rintro e w1 ⟨rfl, b⟩
      replace k0 := ((bcell b).1 _ _ (by omega)).trans k0
      replace k1 := ((bcell b).1 _ _ (by omega)).trans k1
      replace hz := Nat.lt_of_lt_of_le hz b.size
      replace bw := bw.trans (b.mono bw.size)
      clear b
      have HB := Bx.mk (bw.alloc bw.size (.cells #[] 26))
      go_wp2_with fail
      go_ret
      rw [HR.out]
      exact ⟨_, _, rfl, fun k xs hk => by simp at hk, HB.out⟩
end Go.Proofs.YtikifkbgmniobaaGreat
