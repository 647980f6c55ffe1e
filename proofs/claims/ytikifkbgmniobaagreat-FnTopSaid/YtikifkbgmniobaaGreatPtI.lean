/- How many partners of a rhythm the program finds. -/
import Derived.Test.YtikifkbgmniobaaGreatPtz
import Derived.Test.YtikifkbgmniobaaGreatCms
import Derived.Test.YtikifkbgmniobaaGreatTls
import Derived.Test.YtikifkbgmniobaaGreatBas
import Derived.Test.YtikifkbgmniobaaGreatRts
namespace Go.Proofs.YtikifkbgmniobaaGreat
open Go.RowKit
set_option maxRecDepth 20000

set_option maxHeartbeats 2000000 in
set_option maxRecDepth 20000 in
theorem implPtLoop_any (n : Nat) (A : Option Addr) (c : Nat) (xs : List Int) (w : World) (h12 : n ≤ 12) (hok : rhOk n xs = true) (hx : IR w A xs) :
    Calls Tryz.prog 10 #[.agg #[.int .i64 n, .slice A xs.length c]] w fun e w' => (∃ A' c', e = .returned (.slice A' (cu (ptP n xs) (2 ^ n)) c')) ∧ Below w.heap.size w w' := by
  have hsb := (rhOk_iff.1 hok).1
  have h1 : 1 ≤ n := by omega
  have hs64 : -9223372036854775808 ≤ (n : Int) ∧ (n : Int) ≤ 9223372036854775807 := by omega
  have h12i : ¬ (n : Int) > 12 := by omega
  obtain ⟨W0, hW0⟩ : ∃ W0, W0 = w.alloc (.cells #[.int .i64 n, .slice A xs.length c] 26) := ⟨_, rfl⟩
  have bw : Below w.heap.size w W0 := by rw [hW0]; exact below_alloc _ _
  have hz : w.heap.size < W0.heap.size := by rw [hW0]; simp
  have k0 : W0.cell? ⟨w.heap.size, 0, none⟩ = some (.int .i64 n) := by rw [hW0]; simp [go_sem]
  have k1 : W0.cell? ⟨w.heap.size, 1, none⟩ = some (.slice A xs.length c) := by rw [hW0]; simp [go_sem]
  have HX := Bx.mk ((RB.of_ir hx).below bw (Nat.le_refl _))
  have HS := Bx.mk hs64
  have HOK := Bx.mk hok
  clear hx hs64 hsb
  have hM := wrap_pow (n := n) (by omega)
  have hMle : 2 ^ n ≤ 4096 := Nat.pow_le_pow_right (n := 2) (by omega) h12
  have hM1 : 1 ≤ 2 ^ n := Nat.two_pow_pos n
  obtain ⟨M, hM, hMle, hM1, HM⟩ : ∃ M : Nat, wrap64 ((2 : Int) ^ n) = (M : Int) ∧ M ≤ 4096 ∧ 1 ≤ M ∧ Bx (M = 2 ^ n) := ⟨2 ^ n, hM, hMle, hM1, ⟨rfl⟩⟩
  have hM2 : wrap64 ((2 : Int) ^ n - 1) = (M : Int) - 1 := by
    have e : (2 : Int) ^ n = (M : Int) := by rw [HM.out]; exact (Int.natCast_pow 2 n).symm
    rw [e]
    exact IntWalk.wrap64_in _ (by omega)
  have HM2 := Bx.mk hM2
  rw [← HM.out]
  clear hM2
  go_enter Tryz.func10, Tryz.ntmps10
  go_wp2_with fail
  rw [← hW0]
  clear hW0
  refine (lit_b hok (implRhythmOk_any _ _ _ _ _ HS.out (by exact HX.out.ir))).mono ?_
  clear hok
  rintro e w1 ⟨rfl, b⟩
  replace k0 := ((bcell b).1 _ _ (by omega)).trans k0
  replace k1 := ((bcell b).1 _ _ (by omega)).trans k1
  replace HX := Bx.mk (HX.out.below b (by omega))
  replace hz := Nat.lt_of_lt_of_le hz b.size
  replace bw := bw.trans (b.mono bw.size)
  clear b
  go_wp2_with fail
  simp only [hM, HM2.out]
  clear hM
  go_loopw [3, 4] (fun v i wr => ∃ (m N : Nat) (vs : List Value), m ≤ M ∧ i = .int .i64 ((m : Int) - 1) ∧ wr.ownsRow w1.heap.size 26 2 v N vs ∧ Bx (N + cu (ptP n xs) m = cu (ptP n xs) M) ∧ Below w1.heap.size w1 wr) (fun _ i _ => (intOf i + 1).toNat)
  case atStart => exact ⟨M, 0, [], by omega, rfl, World.ownsRow_nil _ _ _ _, ⟨by omega⟩, Below.refl _ _⟩
  case round =>
    obtain ⟨m, N, vs, hmM, rfl, hown, HN, hb⟩ := hrel
    have hNle : N ≤ 4096 := by have := HN.out; have := cu_le (ptP n xs) M; omega
    have hzr := hb.size
    have q0 := ((bcell hb).1 _ _ (by omega)).trans k0
    have q1 := ((bcell hb).1 _ _ (by omega)).trans k1
    have HXr := Bx.mk (HX.out.below hb (by omega)).ir
    by_cases h0 : m = 0
    · have hm0 : (m : Int) - 1 = -1 := by omega
      have HF : Bx (cu (ptP n xs) M = N) := ⟨by have := HN.out; rw [h0] at this; simp [cu] at this; omega⟩
      rw [hm0]
      clear h0 hm0
      obtain ⟨A', c', e⟩ := own_slice hown
      subst e
      have HBF := Bx.mk (bw.trans (hb.mono bw.size))
      go_wp2_with fail
      go_ret
      rw [HF.out]
      exact ⟨⟨A', c', rfl⟩, HBF.out⟩
    · obtain ⟨cc, rfl⟩ : ∃ cc, m = cc + 1 := ⟨m - 1, by omega⟩
      have hci : ((cc + 1 : Nat) : Int) - 1 = (cc : Int) := by omega
      rw [hci]
      clear hci h0
      have hcn : Bx (cc < 2 ^ n) := ⟨by rw [← HM.out]; omega⟩
      obtain ⟨ys, hys⟩ : ∃ ys, ys = bt n cc := ⟨_, rfl⟩
      have hyok : rhOk n ys = true := by rw [hys]; have := selTo_ok (s := (n : Int)) ⟨by omega, by omega⟩ (btP n cc); rw [Int.toNat_natCast] at this; exact this
      obtain ⟨bh, hbh⟩ : ∃ bh, bh = hasR n ys 0 := ⟨_, rfl⟩
      obtain ⟨bT, hbT⟩ : ∃ bT, bT = tilesB n xs ys := ⟨_, rfl⟩
      have HPT : Bx (ptP n xs cc = (bh && bT)) := ⟨by unfold ptP; rw [← hys, ← hbh, ← hbT]⟩
      have HHA : Bx (∀ A c W, IR W A ys → Calls Tryz.prog 35 #[.agg #[.int .i64 n, .slice A ys.length c], .int .i64 0] W fun e w' => e = .returned (.bool bh) ∧ Below W.heap.size W w') := ⟨fun A c W h => by rw [hbh]; exact has_any n A c ys 0 W ⟨by omega, by omega⟩ (by omega) h⟩
      have HTI : Bx (∀ A B c d W, IR W A xs → IR W B ys → Calls Tryz.prog 36 #[.agg #[.int .i64 n, .slice A xs.length c], .agg #[.int .i64 n, .slice B ys.length d]] W fun e w' => e = .returned (.bool bT) ∧ Below W.heap.size W w') := ⟨fun A B c d W h1 h2 => by rw [hbT]; exact tilesWith_any n A B c d xs ys W HOK.out hyok h1 h2⟩
      have HYS := Bx.mk hys
      have HOW := Bx.mk hown
      have HBW := Bx.mk hb
      clear hown hb hbh hbT hyok hys
      go_wp2_with fail
      refine (rhythmAt_any _ _ _ (by omega) (by omega) hcn.out).mono ?_
      rintro e w2 ⟨A2, c2, rfl, io2, b2⟩
      rw [← HYS.out] at io2 ⊢
      have hz2 := b2.size
      obtain ⟨w3, hw3⟩ : ∃ w3, w3 = w2.alloc (.cells #[.int .i64 n, .slice A2 ys.length c2] 26) := ⟨_, rfl⟩
      have b3 : Below w2.heap.size w2 w3 := by rw [hw3]; exact below_alloc _ _
      obtain ⟨g, hg⟩ : ∃ g, g = w2.heap.size := ⟨_, rfl⟩
      have s0 : w3.cell? ⟨g, 0, none⟩ = some (.int .i64 n) := by rw [hw3, hg]; simp [go_sem]
      have s1 : w3.cell? ⟨g, 1, none⟩ = some (.slice A2 ys.length c2) := by rw [hw3, hg]; simp [go_sem]
      have hg3 : g < w3.heap.size := by rw [hw3, hg]; simp
      have hz3 := b3.size
      have b23 := b2.trans (b3.mono hz2)
      have HI3 := Bx.mk (io2.reads.below b3)
      have HBW3 := Bx.mk (HBW.out.trans (b23.mono hzr))
      have HOW3 := Bx.mk (own_below HOW.out b23 (Nat.le_refl _))
      have HX3 := Bx.mk (HXr.out.below b23)
      have r0 := ((bcell b23).1 _ _ (by omega)).trans q0
      have r1 := ((bcell b23).1 _ _ (by omega)).trans q1
      have hwr3 : w.heap.size < w3.heap.size := by omega
      clear b2 b3 io2 b23
      go_wp2_with fail
      rw [← hw3, ← hg]
      clear hw3 hg
      refine (HHA.out _ _ _ (by exact HI3.out)).mono ?_
      rintro e w4 ⟨rfl, b4⟩
      replace s0 := ((bcell b4).1 _ _ hg3).trans s0
      replace s1 := ((bcell b4).1 _ _ hg3).trans s1
      replace r0 := ((bcell b4).1 _ _ hwr3).trans r0
      replace r1 := ((bcell b4).1 _ _ hwr3).trans r1
      have hz4 := b4.size
      have HI4 := Bx.mk (HI3.out.below b4)
      have HX4 := Bx.mk (HX3.out.below b4)
      have HB4 := Bx.mk (HBW3.out.trans (b4.mono HBW3.out.size))
      have HO4 := Bx.mk (own_below HOW3.out b4 (Nat.le_refl _))
      have hg4 : g < w4.heap.size := by omega
      clear b4 HOW3 HBW3 HI3 HX3
      cases bh with
      | false =>
        have HS2 : Bx (N + cu (ptP n xs) cc = cu (ptP n xs) M) := ⟨by have h2 := HN.out; rw [cu_miss (show ptP n xs cc = false by rw [HPT.out]; rfl)] at h2; omega⟩
        go_wp2_with fail
        go_roundw
        case rel => exact ⟨cc, N, _, by omega, by go_num, HO4.out, HS2, HB4.out⟩
        case measure => simp [intOf]
      | true =>
        go_wp2_with fail
        refine (HTI.out _ _ _ _ _ (by exact HX4.out) (by exact HI4.out)).mono ?_
        rintro e w5 ⟨rfl, b5⟩
        replace s0 := ((bcell b5).1 _ _ hg4).trans s0
        replace s1 := ((bcell b5).1 _ _ hg4).trans s1
        have HB5 := Bx.mk (HB4.out.trans (b5.mono HB4.out.size))
        have HO5 := Bx.mk (own_below HO4.out b5 (Nat.le_refl _))
        have hz5 := HB5.out.size
        clear b5 HO4 HB4
        cases bT with
        | false =>
          have HS2 : Bx (N + cu (ptP n xs) cc = cu (ptP n xs) M) := ⟨by have h2 := HN.out; rw [cu_miss (show ptP n xs cc = false by rw [HPT.out]; rfl)] at h2; omega⟩
          go_wp2_with fail
          go_roundw
          case rel => exact ⟨cc, N, _, by omega, by go_num, HO5.out, HS2, HB5.out⟩
          case measure => simp [intOf]
        | true =>
          have HS2 : Bx ((N + 1) + cu (ptP n xs) cc = cu (ptP n xs) M) := ⟨by have h2 := HN.out; rw [cu_hit (show ptP n xs cc = true by rw [HPT.out]; rfl)] at h2; omega⟩
          go_wp2_with (at_builtin; go_must (refine wpList_appG 33 26 2 32 (.agg #[.int .i64 0, .slice none 0 0]) Tryz.underlying33 info_rh rfl (by decide) (by decide) rfl _ _ rfl w1.heap.size _ N vs [.int .i64 n, .slice A2 ys.length c2] rfl rfl rfl (by intro u hu; simp at hu; rcases hu with rfl | rfl <;> rfl) (by exact HO5.out) (by omega) (by omega) ?_); intro v1 w6 hown1 hg1 hb1)
          have R := Bx.mk (And.intro hown1 (HB5.out.trans hb1))
          clear hown1 hg1 hb1
          go_wp2_with fail
          go_roundw
          case rel => exact ⟨cc, N + 1, _, by omega, by go_num, R.out.1, HS2, R.out.2⟩
          case measure => simp [intOf]
end Go.Proofs.YtikifkbgmniobaaGreat
