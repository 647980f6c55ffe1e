/- The partners of a rhythm: both sides. -/
import Derived.Test.YtikifkbgmniobaaGreatPtLI
import Derived.Test.YtikifkbgmniobaaGreatFindC
namespace Go.Proofs.YtikifkbgmniobaaGreat
open Go.RowKit
set_option maxRecDepth 20000

def ptsL (s : Int) (xs : List Int) : List (List Int) := if rhOk s xs = true ∧ s ≤ 12 then ptL s.toNat xs (2 ^ s.toNat) else []
theorem ptsL_no {s : Int} {xs : List Int} (h : rhOk s xs = false) : ptsL s xs = [] := by simp [ptsL, h]
theorem ptsL_big {s : Int} {xs : List Int} (h : ¬ s ≤ 12) : ptsL s xs = [] := by simp [ptsL, h]
theorem ptsL_in {n : Nat} {xs : List Int} (h : rhOk n xs = true) (h12 : n ≤ 12) : ptsL n xs = ptL n xs (2 ^ n) := by
  unfold ptsL
  rw [if_pos ⟨h, by omega⟩, Int.toNat_natCast]
theorem ptsL_mem {s : Int} {xs ys : List Int} (h : ys ∈ ptsL s xs) : rhOk s xs = true ∧ s ≤ 12 ∧ rhOk s ys = true ∧ hasR s ys 0 = true ∧ tilesB s xs ys = true := by
  unfold ptsL at h
  by_cases hc : rhOk s xs = true ∧ s ≤ 12
  · rw [if_pos hc] at h
    obtain ⟨hok, h12⟩ := hc
    obtain ⟨n, hn⟩ := Int.eq_ofNat_of_zero_le (show 0 ≤ s by have := (rhOk_iff.1 hok).1; omega)
    subst hn
    rw [Int.toNat_natCast] at h
    unfold ptL at h
    obtain ⟨j, hj, rfl⟩ := List.mem_map.1 h
    have hp := (dn_mem.1 hj).2
    unfold ptP at hp
    rw [Bool.and_eq_true] at hp
    have hb := (rhOk_iff.1 hok).1
    have hbok : rhOk n (bt n j) = true := by have := selTo_ok (s := (n : Int)) ⟨by omega, by omega⟩ (btP n j); rw [Int.toNat_natCast] at this; exact this
    exact ⟨hok, h12, hbok, hp.1, hp.2⟩
  · rw [if_neg hc] at h; cases h
theorem totR_le (B : Nat) (xss : List (List Int)) (h : ∀ xs ∈ xss, xs.length ≤ B) : totR xss ≤ xss.length * (B + 1) := by
  induction xss with
  | nil => simp [totR]
  | cons xs r ih =>
    have h1 := h xs (List.mem_cons_self)
    have h2 := ih fun ys hy => h ys (List.mem_cons_of_mem _ hy)
    simp only [totR, List.length_cons, Nat.succ_mul]
    omega
theorem ptsL_len (s : Int) (xs : List Int) : (ptsL s xs).length ≤ 4096 := by
  unfold ptsL
  by_cases hc : rhOk s xs = true ∧ s ≤ 12
  · rw [if_pos hc, ptL_len]
    have h1 := cu_le (ptP s.toNat xs) (2 ^ s.toNat)
    have h2 : 2 ^ s.toNat ≤ 4096 := Nat.le_trans (Nat.pow_le_pow_right (n := 2) (by omega) (show s.toNat ≤ 12 by omega)) (by decide)
    omega
  · rw [if_neg hc]; simp
theorem ptsL_short (s : Int) (xs : List Int) : ShortR (ptsL s xs) ∧ totR (ptsL s xs) ≤ 1000000 := by
  have key : ∀ ys ∈ ptsL s xs, ys.length ≤ 24 := fun ys hy => (rhOk_len (ptsL_mem hy).2.2.1).1
  have hl := ptsL_len s xs
  have ht : ∀ i, totR ((ptsL s xs).take i) ≤ 1000000 := fun i => by
    have h1 := totR_le 24 ((ptsL s xs).take i) fun ys hy => key ys (List.mem_of_mem_take hy)
    have h2 : ((ptsL s xs).take i).length ≤ 4096 := by rw [List.length_take]; omega
    have := Nat.mul_le_mul_right 25 h2
    omega
  refine ⟨⟨fun i ys h => by have := key ys (List.mem_of_getElem? h); omega, fun i => by have := ht i; omega, by omega⟩, ?_⟩
  have := ht (ptsL s xs).length
  rw [List.take_length] at this
  exact this
def GivesRd (w : World) (n : Int) (L : List (List Int)) (e : Ending) (w' : World) : Prop := ∃ V, e = .returned V ∧ RdR w' w'.heap.size V n L ∧ Below w.heap.size w w'
set_option maxHeartbeats 2000000 in
theorem specPtList_any (n : Nat) (A : Option Addr) (c : Nat) (xs : List Int) (w : World) (h12 : n ≤ 12) (hok : rhOk n xs = true) (hx : IR w A xs) :
    Calls Tryz.prog 50 #[.agg #[.int .i64 n, .slice A xs.length c]] w (GivesRd w n (ptL n xs (2 ^ n))) := by
  have hsb := (rhOk_iff.1 hok).1
  have hll := (rhOk_len hok).1
  have hn1 : 1 ≤ n := by omega
  have hs : -9223372036854775808 ≤ (n : Int) ∧ (n : Int) ≤ 9223372036854775807 := by omega
  have h12i : ¬ (n : Int) > 12 := by omega
  have none_ : (xs.length = 0 ∨ n % xs.length ≠ 0) → ptL n xs (2 ^ n) = [] := fun h => by
    unfold ptL
    rw [dn_none fun j _ => ?_]
    · rfl
    unfold ptP
    cases ht : tilesB n xs (bt n j) with
    | false => exact Bool.and_false _
    | true =>
      have h4 := tiles_len ht
      rcases h with h | h
      · rw [h, Nat.zero_mul] at h4; omega
      · exact absurd (by rw [← h4]; exact Nat.mul_mod_right _ _) h
  obtain ⟨W0, hW0⟩ : ∃ W0, W0 = w.alloc (.cells #[.int .i64 n, .slice A xs.length c] 26) := ⟨_, rfl⟩
  have bw : Below w.heap.size w W0 := by rw [hW0]; exact below_alloc _ _
  have hz : w.heap.size < W0.heap.size := by rw [hW0]; simp
  have k0 : W0.cell? ⟨w.heap.size, 0, none⟩ = some (.int .i64 n) := by rw [hW0]; simp [go_sem]
  have k1 : W0.cell? ⟨w.heap.size, 1, none⟩ = some (.slice A xs.length c) := by rw [hW0]; simp [go_sem]
  have HX := Bx.mk ((RB.of_ir hx).below bw (Nat.le_refl _))
  have HS := Bx.mk hs
  have HNO := Bx.mk none_
  clear hx hs none_
  by_cases h0 : xs.length = 0
  · have HR := Bx.mk (HNO.out (.inl h0))
    have h0b : (((xs.length : Int) == 0)) = true := by rw [beq_iff_eq]; omega
    clear h0
    go_enter Tryz.func50, Tryz.ntmps50
    go_wp2_with fail
    rw [← hW0]
    clear hW0
    refine (lit_b hok (specRhythmOk_any _ _ _ _ _ HS.out (by exact HX.out.ir))).mono ?_
    clear hok
    rintro e w1 ⟨rfl, b⟩
    replace k0 := ((bcell b).1 _ _ (by omega)).trans k0
    replace k1 := ((bcell b).1 _ _ (by omega)).trans k1
    replace hz := Nat.lt_of_lt_of_le hz b.size
    replace bw := bw.trans (b.mono bw.size)
    clear b
    have HB := Bx.mk (bw.alloc bw.size (.cells #[] 26))
    go_wp2_with fail
    go_ret
    rw [HR.out]
    exact ⟨_, rfl, ⟨_, _, rfl, fun k xs hk => by simp at hk⟩, HB.out⟩
  · have h0b : (((xs.length : Int) == 0)) = false := by rw [beq_eq_false_iff_ne]; omega
    have hxn0 : ¬ xs.length = 0 := h0
    have hxi0 : ¬ (xs.length : Int) = 0 := by omega
    have hxe : xs ≠ [] := List.ne_nil_of_length_pos (by omega)
    obtain ⟨r, hr⟩ : ∃ r : Nat, r = n % xs.length := ⟨_, rfl⟩
    have hrt : (n : Int).tmod (xs.length : Int) = (r : Int) := by rw [hr]; exact (Int.ofNat_tmod n xs.length).symm
    by_cases hr0 : r = 0
    · have hrb : (((r : Int) != 0)) = false := by simp; omega
      have hdvd : n % xs.length = 0 := by omega
      have hd0 : drct n xs (bt n 0) = true := by
        rw [bt_zero]
        rw [drct_iff]
        intro i hi
        have hz0 : ∀ a, outC (n : Int) xs [] a = List.replicate (Int.toNat n) 0 := by
          intro a
          induction a with
          | zero => rfl
          | succ a ih => simp only [outC, List.length_nil, inC]; exact ih
        have : sumC (n : Int) xs [] = List.replicate (Int.toNat n) 0 := hz0 _
        rw [this]
        rw [List.getElem?_replicate]
        split <;> simp
      have HQ := Bx.mk (ptS_ptL hn1 (by omega) hok (by rw [← bt_zero (n := n)]; exact hd0))
      have hql : 0 + (ptS n xs n 0).length ≤ 100000 := by rw [HQ.out, ptL_len]; have := cu_le (ptP n xs) (2 ^ n); have := Nat.pow_le_pow_right (n := 2) (by omega) h12; omega
      have hpow : 2 ^ n ≤ 4096 := Nat.pow_le_pow_right (n := 2) (by omega) h12
      have HFD : Bx (∀ g w2 base, IR w2 A xs → w2.ownsRow base 26 2 (.slice (some ⟨g, 0, none⟩) 0 0) 0 [] → base ≤ w2.heap.size → (∀ x, A = some x → x.block ≠ g) →
          Calls Tryz.prog 70 #[.agg #[.int .i64 n, .slice A xs.length c], .agg #[.int .i64 n, .slice none 0 0], .slice (some ⟨g, 0, none⟩) 0 0, .int .i64 0, .bool false] w2 (GivesFc w2 base (some ⟨g, 0, none⟩) 0 [] n (ptS n xs n 0))) := ⟨fun g w2 base h1 h2 h3 h4 => by
        have := l09FindC_any n A c xs hn1 (by omega) hok (by omega) hdvd n 0 none 0 (some ⟨g, 0, none⟩) 0 0 [] base w2 (Nat.le_refl _) (Nat.dvd_zero _) (by omega) hd0 (.inl rfl) (fun _ => ⟨rfl, rfl⟩) h1 (by rw [bt_zero]; exact IR.nil _ _) h2 h3 hql (fun x y hx hy => by injection hy with hy; subst hy; exact h4 x hx) (fun x y hx => by cases hx)
        rw [bt_zero, show (n : Int) - (n : Int) = 0 by omega] at this
        exact this⟩
      clear hql
      clear hr hr0 hdvd hd0 h0 hll hpow
      go_enter Tryz.func50, Tryz.ntmps50
      go_wp2_with fail
      rw [← hW0]
      clear hW0
      refine (lit_b hok (specRhythmOk_any _ _ _ _ _ HS.out (by exact HX.out.ir))).mono ?_
      clear hok
      rintro e w1 ⟨rfl, b⟩
      have hz0 : w.heap.size < W0.heap.size := hz
      have HAW : Bx (∀ x, A = some x → x.block ≠ w1.heap.size) := ⟨fun x hx => by
        obtain ⟨b', o', e, hb', _⟩ := HX.out.ir.at_ (by omega)
        rw [e] at hx; injection hx with hx; subst hx
        have := (HX.out.2 (by omega) _ e).2
        have := b.size
        simp at *
        omega⟩
      replace k0 := ((bcell b).1 _ _ (by omega)).trans k0
      replace k1 := ((bcell b).1 _ _ (by omega)).trans k1
      replace HX := Bx.mk (HX.out.below b (by omega))
      replace hz := Nat.lt_of_lt_of_le hz b.size
      replace bw := bw.trans (b.mono bw.size)
      clear b hz0
      obtain ⟨w2, hw2⟩ : ∃ w2, w2 = w1.alloc (.cells #[] 26) := ⟨_, rfl⟩
      have b2 : Below w1.heap.size w1 w2 := by rw [hw2]; exact below_alloc _ _
      have hown : w2.ownsRow w1.heap.size 26 2 (.slice (some ⟨w1.heap.size, 0, none⟩) 0 0) 0 [] := by
        rw [hw2]
        exact ⟨by simp, .inr ⟨w1.heap.size, 0, #[], rfl, Nat.le_refl _, heap_alloc_new w1 _, Nat.le_refl _, by unfold maxLen; omega, by simp, rfl⟩⟩
      have HOW := Bx.mk hown
      have HXI := Bx.mk (HX.out.below b2 (by omega)).ir
      have hzz := b2.size
      have bw2 := bw.trans (b2.mono bw.size)
      clear hown b2
      go_wp2_with fail
      rw [← hw2]
      clear hw2
      refine (HFD.out _ _ w1.heap.size (by exact HXI.out) (by exact HOW.out) (by omega) HAW.out).mono ?_
      rw [HQ.out]
      rintro e w3 ⟨AV, cV, ws, rfl, hF⟩
      have hrd := hF.rd (Nat.le_refl _)
      have ho := hF.only
      have HF := Bx.mk (And.intro hrd (bw2.trans (ho.below (B := w.heap.size) (by have := bw2.size; omega) (fun x hx => by injection hx with hx; subst hx; simp; omega))))
      clear ho hrd hF
      go_wp2_with fail
      go_ret
      exact ⟨_, by simp, HF.out⟩
    · have HR := Bx.mk (HNO.out (.inr (by omega)))
      have hrb : (((r : Int) != 0)) = true := by simp; omega
      clear hr hr0 h0
      go_enter Tryz.func50, Tryz.ntmps50
      go_wp2_with fail
      rw [← hW0]
      clear hW0
      refine (lit_b hok (specRhythmOk_any _ _ _ _ _ HS.out (by exact HX.out.ir))).mono ?_
      clear hok
      rintro e w1 ⟨rfl, b⟩
      replace k0 := ((bcell b).1 _ _ (by omega)).trans k0
      replace k1 := ((bcell b).1 _ _ (by omega)).trans k1
      replace hz := Nat.lt_of_lt_of_le hz b.size
      replace bw := bw.trans (b.mono bw.size)
      clear b
      have HB := Bx.mk (bw.alloc bw.size (.cells #[] 26))
      go_wp2_with fail
      go_ret
      rw [HR.out]
      exact ⟨_, rfl, ⟨_, _, rfl, fun k xs hk => by simp at hk⟩, HB.out⟩
set_option maxHeartbeats 1000000 in
theorem implPts_any (s : Int) (A : Option Addr) (c : Nat) (xs : List Int) (w : World) (hs : -9223372036854775808 ≤ s ∧ s ≤ 9223372036854775807) (hx : IR w A xs) :
    Calls Tryz.prog 10 #[.agg #[.int .i64 s, .slice A xs.length c]] w (GivesRs w s (ptsL s xs)) := by
  cases h1 : rhOk s xs with
  | true =>
    have hsb := (rhOk_iff.1 h1).1
    by_cases h12 : s ≤ 12
    · obtain ⟨n, hn⟩ := Int.eq_ofNat_of_zero_le (show 0 ≤ s by omega)
      subst hn
      have h12n : n ≤ 12 := by omega
      rw [ptsL_in h1 h12n]
      exact implPtList_any n A c xs w h12n h1 hx
    · have HR := Bx.mk (ptsL_big (xs := xs) h12)
      obtain ⟨W0, hW0⟩ : ∃ W0, W0 = w.alloc (.cells #[.int .i64 s, .slice A xs.length c] 26) := ⟨_, rfl⟩
      have bw : Below w.heap.size w W0 := by rw [hW0]; exact below_alloc _ _
      have hz : w.heap.size < W0.heap.size := by rw [hW0]; simp
      have k0 : W0.cell? ⟨w.heap.size, 0, none⟩ = some (.int .i64 s) := by rw [hW0]; simp [go_sem]
      have k1 : W0.cell? ⟨w.heap.size, 1, none⟩ = some (.slice A xs.length c) := by rw [hW0]; simp [go_sem]
      have HX := Bx.mk ((RB.of_ir hx).below bw (Nat.le_refl _))
      have HS := Bx.mk hs
      have h12i : s > 12 := by omega
      clear hx hs
      go_enter Tryz.func10, Tryz.ntmps10
      go_wp2_with fail
      rw [← hW0]
      clear hW0
      refine (lit_b h1 (implRhythmOk_any _ _ _ _ _ HS.out (by exact HX.out.ir))).mono ?_
      clear h1
      rintro e w1 ⟨rfl, b⟩
      replace k0 := ((bcell b).1 _ _ (by omega)).trans k0
      replace k1 := ((bcell b).1 _ _ (by omega)).trans k1
      have bw2 := bw.trans (b.mono bw.size)
      clear b
      go_wp2_with fail
      go_ret
      exact ⟨_, [], [], rfl, by rw [HR.out]; exact RowsR.start _ _, bw2⟩
  | false =>
    have HR := Bx.mk (ptsL_no h1)
    obtain ⟨W0, hW0⟩ : ∃ W0, W0 = w.alloc (.cells #[.int .i64 s, .slice A xs.length c] 26) := ⟨_, rfl⟩
    have bw : Below w.heap.size w W0 := by rw [hW0]; exact below_alloc _ _
    have hz : w.heap.size < W0.heap.size := by rw [hW0]; simp
    have k0 : W0.cell? ⟨w.heap.size, 0, none⟩ = some (.int .i64 s) := by rw [hW0]; simp [go_sem]
    have k1 : W0.cell? ⟨w.heap.size, 1, none⟩ = some (.slice A xs.length c) := by rw [hW0]; simp [go_sem]
    have HX := Bx.mk ((RB.of_ir hx).below bw (Nat.le_refl _))
    have HS := Bx.mk hs
    clear hx hs
    go_enter Tryz.func10, Tryz.ntmps10
    go_wp2_with fail
    rw [← hW0]
    clear hW0
    refine (lit_b h1 (implRhythmOk_any _ _ _ _ _ HS.out (by exact HX.out.ir))).mono ?_
    clear h1
    rintro e w1 ⟨rfl, b⟩
    have bw2 := bw.trans (b.mono bw.size)
    clear b
    go_wp2_with fail
    go_ret
    exact ⟨_, [], [], rfl, by rw [HR.out]; exact RowsR.start _ _, bw2⟩
set_option maxHeartbeats 1000000 in
theorem specPts_any (s : Int) (A : Option Addr) (c : Nat) (xs : List Int) (w : World) (hs : -9223372036854775808 ≤ s ∧ s ≤ 9223372036854775807) (hx : IR w A xs) :
    Calls Tryz.prog 50 #[.agg #[.int .i64 s, .slice A xs.length c]] w (GivesRd w s (ptsL s xs)) := by
  cases h1 : rhOk s xs with
  | true =>
    have hsb := (rhOk_iff.1 h1).1
    by_cases h12 : s ≤ 12
    · obtain ⟨n, hn⟩ := Int.eq_ofNat_of_zero_le (show 0 ≤ s by omega)
      subst hn
      have h12n : n ≤ 12 := by omega
      rw [ptsL_in h1 h12n]
      exact specPtList_any n A c xs w h12n h1 hx
    · have HR := Bx.mk (ptsL_big (xs := xs) h12)
      obtain ⟨W0, hW0⟩ : ∃ W0, W0 = w.alloc (.cells #[.int .i64 s, .slice A xs.length c] 26) := ⟨_, rfl⟩
      have bw : Below w.heap.size w W0 := by rw [hW0]; exact below_alloc _ _
      have hz : w.heap.size < W0.heap.size := by rw [hW0]; simp
      have k0 : W0.cell? ⟨w.heap.size, 0, none⟩ = some (.int .i64 s) := by rw [hW0]; simp [go_sem]
      have k1 : W0.cell? ⟨w.heap.size, 1, none⟩ = some (.slice A xs.length c) := by rw [hW0]; simp [go_sem]
      have HX := Bx.mk ((RB.of_ir hx).below bw (Nat.le_refl _))
      have HS := Bx.mk hs
      have h12i : s > 12 := by omega
      clear hx hs
      go_enter Tryz.func50, Tryz.ntmps50
      go_wp2_with fail
      rw [← hW0]
      clear hW0
      refine (lit_b h1 (specRhythmOk_any _ _ _ _ _ HS.out (by exact HX.out.ir))).mono ?_
      clear h1
      rintro e w1 ⟨rfl, b⟩
      replace k0 := ((bcell b).1 _ _ (by omega)).trans k0
      replace k1 := ((bcell b).1 _ _ (by omega)).trans k1
      have bw2 := bw.trans (b.mono bw.size)
      clear b
      go_wp2_with fail
      go_ret
      exact ⟨_, rfl, by rw [HR.out]; exact ⟨none, 0, rfl, fun k xs hk => by simp at hk⟩, bw2⟩
  | false =>
    have HR := Bx.mk (ptsL_no h1)
    obtain ⟨W0, hW0⟩ : ∃ W0, W0 = w.alloc (.cells #[.int .i64 s, .slice A xs.length c] 26) := ⟨_, rfl⟩
    have bw : Below w.heap.size w W0 := by rw [hW0]; exact below_alloc _ _
    have hz : w.heap.size < W0.heap.size := by rw [hW0]; simp
    have k0 : W0.cell? ⟨w.heap.size, 0, none⟩ = some (.int .i64 s) := by rw [hW0]; simp [go_sem]
    have k1 : W0.cell? ⟨w.heap.size, 1, none⟩ = some (.slice A xs.length c) := by rw [hW0]; simp [go_sem]
    have HX := Bx.mk ((RB.of_ir hx).below bw (Nat.le_refl _))
    have HS := Bx.mk hs
    clear hx hs
    go_enter Tryz.func50, Tryz.ntmps50
    go_wp2_with fail
    rw [← hW0]
    clear hW0
    refine (lit_b h1 (specRhythmOk_any _ _ _ _ _ HS.out (by exact HX.out.ir))).mono ?_
    clear h1
    rintro e w1 ⟨rfl, b⟩
    have bw2 := bw.trans (b.mono bw.size)
    clear b
    go_wp2_with fail
    go_ret
    exact ⟨_, rfl, by rw [HR.out]; exact ⟨none, 0, rfl, fun k xs hk => by simp at hk⟩, bw2⟩
end Go.Proofs.YtikifkbgmniobaaGreat
