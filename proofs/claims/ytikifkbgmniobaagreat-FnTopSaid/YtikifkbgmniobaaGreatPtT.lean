/- How many partners a rhythm has: both sides. -/
import Derived.Test.YtikifkbgmniobaaGreatPtI
import Derived.Test.YtikifkbgmniobaaGreatFindR
namespace Go.Proofs.YtikifkbgmniobaaGreat
open Go.RowKit
set_option maxRecDepth 20000

def cntPt (s : Int) (xs : List Int) : Int := if rhOk s xs = true ∧ s ≤ 12 then ((cu (ptP s.toNat xs) (2 ^ s.toNat) : Nat) : Int) else -1
theorem cntPt_no {s : Int} {xs : List Int} (h : rhOk s xs = false) : cntPt s xs = -1 := by simp [cntPt, h]
theorem cntPt_big {s : Int} {xs : List Int} (h : ¬ s ≤ 12) : cntPt s xs = -1 := by simp [cntPt, h]
theorem cntPt_in {n : Nat} {xs : List Int} (h : rhOk n xs = true) (h12 : n ≤ 12) : cntPt n xs = ((cu (ptP n xs) (2 ^ n) : Nat) : Int) := by
  unfold cntPt
  rw [if_pos ⟨h, by omega⟩, Int.toNat_natCast]
set_option maxHeartbeats 1000000 in
theorem implCntPt_any (s : Int) (A : Option Addr) (c : Nat) (xs : List Int) (w : World) (hs : -9223372036854775808 ≤ s ∧ s ≤ 9223372036854775807) (hx : IR w A xs) :
    Calls Tryz.prog 13 #[.agg #[.int .i64 s, .slice A xs.length c]] w fun e w' => e = .returned (.int .i64 (cntPt s xs)) ∧ Below w.heap.size w w' := by
  obtain ⟨W0, hW0⟩ : ∃ W0, W0 = w.alloc (.cells #[.int .i64 s, .slice A xs.length c] 26) := ⟨_, rfl⟩
  have bw : Below w.heap.size w W0 := by rw [hW0]; exact below_alloc _ _
  have hz : w.heap.size < W0.heap.size := by rw [hW0]; simp
  have k0 : W0.cell? ⟨w.heap.size, 0, none⟩ = some (.int .i64 s) := by rw [hW0]; simp [go_sem]
  have k1 : W0.cell? ⟨w.heap.size, 1, none⟩ = some (.slice A xs.length c) := by rw [hW0]; simp [go_sem]
  have HX := Bx.mk ((RB.of_ir hx).below bw (Nat.le_refl _))
  have HS := Bx.mk hs
  clear hx hs
  cases h1 : rhOk s xs with
  | false =>
    have HR := Bx.mk (cntPt_no h1)
    go_enter Tryz.func13, Tryz.ntmps13
    go_wp2_with fail
    rw [← hW0]
    clear hW0
    refine (lit_b h1 (implRhythmOk_any _ _ _ _ _ HS.out (by exact HX.out.ir))).mono ?_
    rintro e w1 ⟨rfl, b⟩
    have bw2 := bw.trans (b.mono bw.size)
    clear b
    go_wp2_with fail
    go_ret
    exact ⟨ret_int HR.out.symm, bw2⟩
  | true =>
    have hsb := (rhOk_iff.1 h1).1
    by_cases h12 : s ≤ 12
    · obtain ⟨n, hn⟩ := Int.eq_ofNat_of_zero_le (show 0 ≤ s by omega)
      subst hn
      have h12n : n ≤ 12 := by omega
      have h12i : ¬ (n : Int) > 12 := by omega
      obtain ⟨q, hq⟩ : ∃ q, q = cu (ptP n xs) (2 ^ n) := ⟨_, rfl⟩
      have HR : Bx (cntPt n xs = (q : Int)) := ⟨by rw [hq]; exact cntPt_in h1 h12n⟩
      have HPA : Bx (∀ c W, IR W A xs → Calls Tryz.prog 10 #[.agg #[.int .i64 n, .slice A xs.length c]] W fun e w' => (∃ A' c', e = .returned (.slice A' q c')) ∧ Below W.heap.size W w') := ⟨fun c W h => by rw [hq]; exact implPtLoop_any n A c xs W h12n h1 h⟩
      clear hq hsb
      go_enter Tryz.func13, Tryz.ntmps13
      go_wp2_with fail
      rw [← hW0]
      clear hW0
      refine (lit_b h1 (implRhythmOk_any _ _ _ _ _ HS.out (by exact HX.out.ir))).mono ?_
      clear h1
      rintro e w1 ⟨rfl, b⟩
      replace k0 := ((bcell b).1 _ _ (by omega)).trans k0
      replace k1 := ((bcell b).1 _ _ (by omega)).trans k1
      replace HX := Bx.mk (HX.out.below b (by omega))
      replace hz := Nat.lt_of_lt_of_le hz b.size
      replace bw := bw.trans (b.mono bw.size)
      clear b
      go_wp2_with fail
      refine (HPA.out _ _ (by exact HX.out.ir)).mono ?_
      rintro e w2 ⟨⟨A2, c2, rfl⟩, b⟩
      have bw2 := bw.trans (b.mono bw.size)
      clear b
      go_wp2_with fail
      go_ret
      exact ⟨ret_int HR.out.symm, bw2⟩
    · have HR := Bx.mk (cntPt_big (xs := xs) h12)
      have h12i : s > 12 := by omega
      go_enter Tryz.func13, Tryz.ntmps13
      go_wp2_with fail
      rw [← hW0]
      clear hW0
      refine (lit_b h1 (implRhythmOk_any _ _ _ _ _ HS.out (by exact HX.out.ir))).mono ?_
      clear h1
      rintro e w1 ⟨rfl, b⟩
      replace k0 := ((bcell b).1 _ _ (by omega)).trans k0
      replace k1 := ((bcell b).1 _ _ (by omega)).trans k1
      replace hz := Nat.lt_of_lt_of_le hz b.size
      replace bw := bw.trans (b.mono bw.size)
      clear b
      go_wp2_with fail
      go_ret
      exact ⟨ret_int HR.out.symm, bw⟩
set_option maxHeartbeats 2000000 in
theorem specPtLoop_any (n : Nat) (A : Option Addr) (c : Nat) (xs : List Int) (w : World) (h12 : n ≤ 12) (hok : rhOk n xs = true) (hx : IR w A xs) :
    Calls Tryz.prog 50 #[.agg #[.int .i64 n, .slice A xs.length c]] w fun e w' => (∃ A' c', e = .returned (.slice A' (cu (ptP n xs) (2 ^ n)) c')) ∧ Below w.heap.size w w' := by
  have hsb := (rhOk_iff.1 hok).1
  have hll := (rhOk_len hok).1
  have hn1 : 1 ≤ n := by omega
  have hs : -9223372036854775808 ≤ (n : Int) ∧ (n : Int) ≤ 9223372036854775807 := by omega
  have h12i : ¬ (n : Int) > 12 := by omega
  have none_ : (xs.length = 0 ∨ n % xs.length ≠ 0) → cu (ptP n xs) (2 ^ n) = 0 := fun h => cu_none fun j _ => by
    unfold ptP
    cases ht : tilesB n xs (bt n j) with
    | false => exact Bool.and_false _
    | true =>
      have h4 := tiles_len ht
      rcases h with h | h
      · rw [h, Nat.zero_mul] at h4; omega
      · exact absurd (by rw [← h4]; exact Nat.mul_mod_right _ _) h
  obtain ⟨W0, hW0⟩ : ∃ W0, W0 = w.alloc (.cells #[.int .i64 n, .slice A xs.length c] 26) := ⟨_, rfl⟩
  have bw : Below w.heap.size w W0 := by rw [hW0]; exact below_alloc _ _
  have hz : w.heap.size < W0.heap.size := by rw [hW0]; simp
  have k0 : W0.cell? ⟨w.heap.size, 0, none⟩ = some (.int .i64 n) := by rw [hW0]; simp [go_sem]
  have k1 : W0.cell? ⟨w.heap.size, 1, none⟩ = some (.slice A xs.length c) := by rw [hW0]; simp [go_sem]
  have HX := Bx.mk ((RB.of_ir hx).below bw (Nat.le_refl _))
  have HS := Bx.mk hs
  have HNO := Bx.mk none_
  clear hx hs none_
  by_cases h0 : xs.length = 0
  · have HR := Bx.mk (HNO.out (.inl h0))
    have h0b : (((xs.length : Int) == 0)) = true := by rw [beq_iff_eq]; omega
    clear h0
    go_enter Tryz.func50, Tryz.ntmps50
    go_wp2_with fail
    rw [← hW0]
    clear hW0
    refine (lit_b hok (specRhythmOk_any _ _ _ _ _ HS.out (by exact HX.out.ir))).mono ?_
    clear hok
    rintro e w1 ⟨rfl, b⟩
    replace k0 := ((bcell b).1 _ _ (by omega)).trans k0
    replace k1 := ((bcell b).1 _ _ (by omega)).trans k1
    replace hz := Nat.lt_of_lt_of_le hz b.size
    replace bw := bw.trans (b.mono bw.size)
    clear b
    have HB := Bx.mk (bw.alloc bw.size (.cells #[] 26))
    go_wp2_with fail
    go_ret
    rw [HR.out]
    exact ⟨⟨_, _, rfl⟩, HB.out⟩
  · have h0b : (((xs.length : Int) == 0)) = false := by rw [beq_eq_false_iff_ne]; omega
    have hxn0 : ¬ xs.length = 0 := h0
    have hxi0 : ¬ (xs.length : Int) = 0 := by omega
    have hxe : xs ≠ [] := List.ne_nil_of_length_pos (by omega)
    obtain ⟨r, hr⟩ : ∃ r : Nat, r = n % xs.length := ⟨_, rfl⟩
    have hrt : (n : Int).tmod (xs.length : Int) = (r : Int) := by rw [hr]; exact (Int.ofNat_tmod n xs.length).symm
    by_cases hr0 : r = 0
    · have hrb : (((r : Int) != 0)) = false := by simp; omega
      have hdvd : n % xs.length = 0 := by omega
      have hd0 : drct n xs (bt n 0) = true := by
        rw [bt_zero]
        rw [drct_iff]
        intro i hi
        have hz0 : ∀ a, outC (n : Int) xs [] a = List.replicate (Int.toNat n) 0 := by
          intro a
          induction a with
          | zero => rfl
          | succ a ih => simp only [outC, List.length_nil, inC]; exact ih
        have : sumC (n : Int) xs [] = List.replicate (Int.toNat n) 0 := hz0 _
        rw [this]
        rw [List.getElem?_replicate]
        split <;> simp
      have HPD := Bx.mk (ptD_cu hn1 (by omega) hok n 0 (Nat.le_refl _) (Nat.dvd_zero _) (by omega) hd0 (.inl rfl))
      have hpow : 2 ^ n ≤ 4096 := Nat.pow_le_pow_right (n := 2) (by omega) h12
      have HFD : Bx (∀ g w2 base, IR w2 A xs → w2.ownsRow base 26 2 (.slice (some ⟨g, 0, none⟩) 0 0) 0 [] → base ≤ w2.heap.size → (∀ x, A = some x → x.block ≠ g) →
          Calls Tryz.prog 70 #[.agg #[.int .i64 n, .slice A xs.length c], .agg #[.int .i64 n, .slice none 0 0], .slice (some ⟨g, 0, none⟩) 0 0, .int .i64 0, .bool false] w2 (GivesFd w2 base (some ⟨g, 0, none⟩) (0 + ptD n xs n 0))) := ⟨fun g w2 base h1 h2 h3 h4 => by
        have := l09Find_any n A c xs hn1 h12 hok (by omega) hdvd n 0 none 0 (some ⟨g, 0, none⟩) 0 0 [] base w2 (Nat.le_refl _) (Nat.dvd_zero _) (by omega) hd0 (.inl rfl) (fun _ => ⟨rfl, rfl⟩) h1 (by rw [bt_zero]; exact IR.nil _ _) h2 h3 (by omega) (fun x y hx hy => by injection hy with hy; subst hy; exact h4 x hx) (fun x y hx => by cases hx)
        rw [bt_zero, show (n : Int) - (n : Int) = 0 by omega] at this
        exact this⟩
      have hfun : (fun j => ptP n xs (0 + j)) = ptP n xs := by funext j; rw [Nat.zero_add]
      have HQ : Bx (0 + ptD n xs n 0 = cu (ptP n xs) (2 ^ n)) := ⟨by rw [HPD.out, hfun]; omega⟩
      clear hr hr0 hdvd hd0 hfun h0 hll hpow
      go_enter Tryz.func50, Tryz.ntmps50
      go_wp2_with fail
      rw [← hW0]
      clear hW0
      refine (lit_b hok (specRhythmOk_any _ _ _ _ _ HS.out (by exact HX.out.ir))).mono ?_
      clear hok
      rintro e w1 ⟨rfl, b⟩
      have hz0 : w.heap.size < W0.heap.size := hz
      have HAW : Bx (∀ x, A = some x → x.block ≠ w1.heap.size) := ⟨fun x hx => by
        obtain ⟨b', o', e, hb', _⟩ := HX.out.ir.at_ (by omega)
        rw [e] at hx; injection hx with hx; subst hx
        have := (HX.out.2 (by omega) _ e).2
        have := b.size
        simp at *
        omega⟩
      replace k0 := ((bcell b).1 _ _ (by omega)).trans k0
      replace k1 := ((bcell b).1 _ _ (by omega)).trans k1
      replace HX := Bx.mk (HX.out.below b (by omega))
      replace hz := Nat.lt_of_lt_of_le hz b.size
      replace bw := bw.trans (b.mono bw.size)
      clear b hz0
      obtain ⟨w2, hw2⟩ : ∃ w2, w2 = w1.alloc (.cells #[] 26) := ⟨_, rfl⟩
      have b2 : Below w1.heap.size w1 w2 := by rw [hw2]; exact below_alloc _ _
      have hown : w2.ownsRow w1.heap.size 26 2 (.slice (some ⟨w1.heap.size, 0, none⟩) 0 0) 0 [] := by
        rw [hw2]
        exact ⟨by simp, .inr ⟨w1.heap.size, 0, #[], rfl, Nat.le_refl _, heap_alloc_new w1 _, Nat.le_refl _, by unfold maxLen; omega, by simp, rfl⟩⟩
      have HOW := Bx.mk hown
      have HXI := Bx.mk (HX.out.below b2 (by omega)).ir
      have hzz := b2.size
      have bw2 := bw.trans (b2.mono bw.size)
      clear hown b2
      go_wp2_with fail
      rw [← hw2]
      clear hw2
      refine (HFD.out _ _ w1.heap.size (by exact HXI.out) (by exact HOW.out) (by omega) HAW.out).mono ?_
      rw [HQ.out]
      rintro e w3 ⟨AV, cV, vs, rfl, _, ho, _⟩
      have HF := Bx.mk (bw2.trans (ho.below (B := w.heap.size) (by have := bw2.size; omega) (fun x hx => by injection hx with hx; subst hx; simp; omega)))
      clear ho
      go_wp2_with fail
      go_ret
      exact ⟨⟨AV, cV, rfl⟩, HF.out⟩
    · have HR := Bx.mk (HNO.out (.inr (by omega)))
      have hrb : (((r : Int) != 0)) = true := by simp; omega
      clear hr hr0 h0
      go_enter Tryz.func50, Tryz.ntmps50
      go_wp2_with fail
      rw [← hW0]
      clear hW0
      refine (lit_b hok (specRhythmOk_any _ _ _ _ _ HS.out (by exact HX.out.ir))).mono ?_
      clear hok
      rintro e w1 ⟨rfl, b⟩
      replace k0 := ((bcell b).1 _ _ (by omega)).trans k0
      replace k1 := ((bcell b).1 _ _ (by omega)).trans k1
      replace hz := Nat.lt_of_lt_of_le hz b.size
      replace bw := bw.trans (b.mono bw.size)
      clear b
      have HB := Bx.mk (bw.alloc bw.size (.cells #[] 26))
      go_wp2_with fail
      go_ret
      rw [HR.out]
      exact ⟨⟨_, _, rfl⟩, HB.out⟩
end Go.Proofs.YtikifkbgmniobaaGreat
