/- How many rhythms meet both conditions. -/
import Derived.Test.YtgfdmjhdfddopaaCmPlain
import Derived.Test.YtgfdmjhdfddopaaOnes
import Derived.Test.YtgfdmjhdfddopaaBas
import Derived.Test.YtgfdmjhdfddopaaAppG
namespace Go.Proofs.Ytgfdmjhdfddopaa
open Go.RowKit
set_option maxRecDepth 20000

theorem own_slice {w : World} {base e q n : Nat} {v : Value} {vs : List Value} (h : w.ownsRow base e q v n vs) : ∃ A c, v = .slice A n c := by
  rcases h.2 with ⟨e1, hn⟩ | ⟨g, cap, cur, e1, _⟩
  · exact ⟨none, 0, by rw [e1, hn]⟩
  · exact ⟨_, _, e1⟩
theorem own_below {w w' : World} {base e q n B : Nat} {v : Value} {vs : List Value} (h : w.ownsRow base e q v n vs) (hb : Below B w w') (hB : w.heap.size ≤ B) : w'.ownsRow base e q v n vs := by
  refine ⟨h.1, ?_⟩
  rcases h.2 with h' | ⟨g, cap, cur, e1, hg, hh, r⟩
  · exact .inl h'
  · exact .inr ⟨g, cap, cur, e1, hg, (hb.block g (Nat.lt_of_lt_of_le (heap_lt hh) hB)).trans hh, r⟩
theorem info_rh : (Try.prog.info? 25).map (fun i => (i.zero, i.size, i.bytes)) = some (some (.agg #[.int .i64 0, .slice none 0 0]), 2, 32) := by kernel_rfl
set_option maxHeartbeats 1000000 in
theorem closC (n c : Nat) (A : Option Addr) (ca : Nat) (w : World) (h1 : 1 ≤ n) (hn : n ≤ 24) (hx : IR w A (bt n c)) :
    Calls Try.prog 44 #[.agg #[.int .i64 n, .slice A (bt n c).length ca]] w fun e w' => e = .returned (.bool (hasR n (bt n c) 0 && mbI n (bt n c))) ∧ Below w.heap.size w w' := by
  obtain ⟨xs, hxs⟩ : ∃ xs, xs = bt n c := ⟨_, rfl⟩
  rw [← hxs] at hx ⊢
  clear hxs
  obtain ⟨s, hs⟩ : ∃ s : Int, s = (n : Int) := ⟨_, rfl⟩
  have hs1 : 1 ≤ s := by omega
  have hs2 : s ≤ 24 := by omega
  have HS : Bx (-9223372036854775808 ≤ s ∧ s ≤ 9223372036854775807) := ⟨by omega⟩
  rw [← hs]
  clear hs
  obtain ⟨W0, hW0⟩ : ∃ W0, W0 = w.alloc (.cells #[.int .i64 s, .slice A xs.length ca] 25) := ⟨_, rfl⟩
  have bw : Below w.heap.size w W0 := by rw [hW0]; exact below_alloc _ _
  have hz : w.heap.size < W0.heap.size := by rw [hW0]; simp
  have k0 : W0.cell? ⟨w.heap.size, 0, none⟩ = some (.int .i64 s) := by rw [hW0]; simp [go_sem]
  have k1 : W0.cell? ⟨w.heap.size, 1, none⟩ = some (.slice A xs.length ca) := by rw [hW0]; simp [go_sem]
  have HX := Bx.mk (hx.below bw)
  clear hx
  cases hv : hasR s xs 0 with
  | false =>
    go_enter Try.func44, Try.ntmps44
    go_wp2_with fail
    rw [← hW0]
    clear hW0
    refine (has_any _ _ _ _ _ _ ⟨hs1, hs2⟩ (by omega) (by exact HX.out)).mono ?_
    rw [hv]
    rintro e w1 ⟨rfl, b⟩
    have HB := Bx.mk (bw.trans (b.mono bw.size))
    clear b
    go_wp2_with fail
    go_ret
    exact ⟨rfl, HB.out⟩
  | true =>
    go_enter Try.func44, Try.ntmps44
    go_wp2_with fail
    rw [← hW0]
    clear hW0
    refine (has_any _ _ _ _ _ _ ⟨hs1, hs2⟩ (by omega) (by exact HX.out)).mono ?_
    rw [hv]
    rintro e w1 ⟨rfl, b⟩
    replace k0 := ((bcell b).1 _ _ (by omega)).trans k0
    replace k1 := ((bcell b).1 _ _ (by omega)).trans k1
    replace HX := Bx.mk (HX.out.below b)
    replace bw := bw.trans (b.mono bw.size)
    clear b
    go_wp2_with fail
    refine (implMb_any _ _ _ _ _ HS.out (by exact HX.out)).mono ?_
    rintro e w2 ⟨rfl, b⟩
    have HB := Bx.mk (bw.trans (b.mono bw.size))
    clear b
    go_wp2_with fail
    go_ret
    exact ⟨rfl, HB.out⟩
set_option maxHeartbeats 2000000 in
set_option maxRecDepth 20000 in
theorem rhFrom_any (n k : Nat) (W0 : World) (h1 : 1 ≤ n) (h10 : n ≤ 10) (_hk : k ≤ n) :
    Calls Try.prog 43 #[.int .i64 n, .int .i64 k, .func (.func 44) #[] #[]] W0 fun e w' => (∃ A c, e = .returned (.slice A (cu (cmP n k) (2 ^ n)) c)) ∧ Below W0.heap.size W0 w' := by
  have hM := wrap_pow (n := n) (by omega)
  have hMle : 2 ^ n ≤ 1024 := Nat.pow_le_pow_right (n := 2) (by omega) h10
  have hM1 : 1 ≤ 2 ^ n := Nat.two_pow_pos n
  obtain ⟨M, hM, hMle, hM1, HM⟩ : ∃ M : Nat, wrap64 ((2 : Int) ^ n) = (M : Int) ∧ M ≤ 1024 ∧ 1 ≤ M ∧ Bx (M = 2 ^ n) := ⟨2 ^ n, hM, hMle, hM1, ⟨rfl⟩⟩
  have hM2 : wrap64 ((2 : Int) ^ n - 1) = (M : Int) - 1 := by
    have e : (2 : Int) ^ n = (M : Int) := by rw [HM.out]; exact (Int.natCast_pow 2 n).symm
    rw [e]
    exact IntWalk.wrap64_in _ (by omega)
  have HM2 := Bx.mk hM2
  rw [← HM.out]
  clear hM2
  go_enter Try.func43, Try.ntmps43
  go_wp2_with fail
  simp only [hM, HM2.out]
  clear hM
  go_loopw [7, 8] (fun v i wr => ∃ (m N : Nat) (vs : List Value), m ≤ M ∧ i = .int .i64 ((m : Int) - 1) ∧ wr.ownsRow W0.heap.size 25 2 v N vs ∧ Bx (N + cu (cmP n k) m = cu (cmP n k) M) ∧ Below W0.heap.size W0 wr) (fun _ i _ => (intOf i + 1).toNat)
  case atStart => exact ⟨M, 0, [], by omega, rfl, World.ownsRow_nil _ _ _ _, ⟨by omega⟩, Below.refl _ _⟩
  case round =>
    obtain ⟨m, N, vs, hmM, rfl, hown, HN, hb⟩ := hrel
    have hNle : N ≤ 1024 := by have := HN.out; have := cu_le (cmP n k) M; omega
    by_cases h0 : m = 0
    · have hm0 : (m : Int) - 1 = -1 := by omega
      have HF : Bx (cu (cmP n k) M = N) := ⟨by have := HN.out; rw [h0] at this; simp [cu] at this; omega⟩
      rw [hm0]
      clear h0 hm0
      obtain ⟨A, c, e⟩ := own_slice hown
      subst e
      go_wp2_with fail
      go_ret
      rw [HF.out]
      exact ⟨⟨A, c, rfl⟩, hb⟩
    · obtain ⟨c, rfl⟩ : ∃ c, m = c + 1 := ⟨m - 1, by omega⟩
      have hci : ((c + 1 : Nat) : Int) - 1 = (c : Int) := by omega
      rw [hci]
      clear hci h0
      have hcn : Bx (c < 2 ^ n) := ⟨by rw [← HM.out]; omega⟩
      have hzr := hb.size
      obtain ⟨p, HP, HO⟩ : ∃ p : Nat, Bx (popc 24 c = p) ∧ Bx (∀ W, Calls Try.prog 67 #[.int .u64 (c : Int)] W fun e w' => e = .returned (.int .i64 (p : Int)) ∧ W = w') :=
        ⟨popc 24 c, ⟨rfl⟩, ⟨fun W => (ones_any (c : Int) (by omega) (by omega) W)⟩⟩
      by_cases hp : p = k
      · have hpb : ((p : Int) != (k : Int)) = false := by simp; omega
        obtain ⟨xs, hxs⟩ : ∃ xs, xs = bt n c := ⟨_, rfl⟩
        have HXS := Bx.mk hxs
        cases hv : (hasR n (bt n c) 0 && mbI n (bt n c)) with
        | true =>
          have HS : Bx ((N + 1) + cu (cmP n k) c = cu (cmP n k) M) := ⟨by have h2 := HN.out; rw [cu_hit (show cmP n k c = true by unfold cmP; rw [HP.out, hp, hv]; simp)] at h2; omega⟩
          have HOW := Bx.mk hown
          have HBW := Bx.mk hb
          clear hown hb hxs
          go_wp2_with (go_at_call 67; refine (HO.out _).mono ?_; rintro e w' ⟨rfl, rfl⟩)
          refine (rhythmAt_any _ _ _ (by omega) (by omega) hcn.out).mono ?_
          rintro e w2 ⟨A2, c2, rfl, io2, b2⟩
          rw [← HXS.out] at io2 ⊢
          have hz2 := b2.size
          obtain ⟨w3, hw3⟩ : ∃ w3, w3 = w2.alloc (.cells #[.int .i64 n, .slice A2 xs.length c2] 25) := ⟨_, rfl⟩
          have b3 : Below w2.heap.size w2 w3 := by rw [hw3]; exact below_alloc _ _
          obtain ⟨g, hg⟩ : ∃ g, g = w2.heap.size := ⟨_, rfl⟩
          have q0 : w3.cell? ⟨g, 0, none⟩ = some (.int .i64 n) := by rw [hw3, hg]; simp [go_sem]
          have q1 : w3.cell? ⟨g, 1, none⟩ = some (.slice A2 xs.length c2) := by rw [hw3, hg]; simp [go_sem]
          have hg3 : g < w3.heap.size := by rw [hw3, hg]; simp
          have hz3 := b3.size
          have HI3 := Bx.mk (io2.reads.below b3)
          have HBW3 := Bx.mk (HBW.out.trans ((b2.trans (b3.mono hz2)).mono hzr))
          have HOW3 := Bx.mk (own_below HOW.out (b2.trans (b3.mono hz2)) (Nat.le_refl _))
          clear b2 b3 io2
          go_wp2_with fail
          rw [← hw3, ← hg]
          clear hw3 hg
          refine (lit_is hv (by have := closC n c A2 c2 w3 h1 (by omega) (by rw [← HXS.out]; exact HI3.out); rw [← HXS.out] at this ⊢; exact this)).mono ?_
          rintro e w4 ⟨rfl, b4⟩
          replace q0 := ((bcell b4).1 _ _ hg3).trans q0
          replace q1 := ((bcell b4).1 _ _ hg3).trans q1
          have HB3 := Bx.mk (HBW3.out.trans (b4.mono HBW3.out.size))
          have HO3 := Bx.mk (own_below HOW3.out b4 (Nat.le_refl _))
          have hz4 := HB3.out.size
          clear b4
          go_wp2_with (at_builtin; go_must (refine wpList_appG 57 25 2 32 (.agg #[.int .i64 0, .slice none 0 0]) Try.underlying57 info_rh rfl (by decide) (by decide) rfl _ _ rfl W0.heap.size _ N vs [.int .i64 n, .slice A2 xs.length c2] rfl rfl rfl (by intro u hu; simp at hu; rcases hu with rfl | rfl <;> rfl) (by exact HO3.out) (by omega) (by omega) ?_); intro v1 w5 hown1 hg1 hb1)
          have R := Bx.mk (And.intro hown1 (HB3.out.trans hb1))
          clear hown1 hg1 hb1
          go_wp2_with fail
          go_roundw
          case rel => exact ⟨c, N + 1, _, by omega, by go_num, R.out.1, HS, R.out.2⟩
          case measure => simp [intOf]
        | false =>
          have HS : Bx (N + cu (cmP n k) c = cu (cmP n k) M) := ⟨by have h2 := HN.out; rw [cu_miss (show cmP n k c = false by unfold cmP; rw [hv]; simp)] at h2; omega⟩
          have HOW := Bx.mk hown
          have HBW := Bx.mk hb
          clear hown hb hxs
          go_wp2_with (go_at_call 67; refine (HO.out _).mono ?_; rintro e w' ⟨rfl, rfl⟩)
          refine (rhythmAt_any _ _ _ (by omega) (by omega) hcn.out).mono ?_
          rintro e w2 ⟨A2, c2, rfl, io2, b2⟩
          rw [← HXS.out] at io2 ⊢
          have hz2 := b2.size
          obtain ⟨w3, hw3⟩ : ∃ w3, w3 = w2.alloc (.cells #[.int .i64 n, .slice A2 xs.length c2] 25) := ⟨_, rfl⟩
          have b3 : Below w2.heap.size w2 w3 := by rw [hw3]; exact below_alloc _ _
          obtain ⟨g, hg⟩ : ∃ g, g = w2.heap.size := ⟨_, rfl⟩
          have q0 : w3.cell? ⟨g, 0, none⟩ = some (.int .i64 n) := by rw [hw3, hg]; simp [go_sem]
          have q1 : w3.cell? ⟨g, 1, none⟩ = some (.slice A2 xs.length c2) := by rw [hw3, hg]; simp [go_sem]
          have hg3 : g < w3.heap.size := by rw [hw3, hg]; simp
          have hz3 := b3.size
          have HI3 := Bx.mk (io2.reads.below b3)
          have HBW3 := Bx.mk (HBW.out.trans ((b2.trans (b3.mono hz2)).mono hzr))
          have HOW3 := Bx.mk (own_below HOW.out (b2.trans (b3.mono hz2)) (Nat.le_refl _))
          clear b2 b3 io2
          go_wp2_with fail
          rw [← hw3, ← hg]
          clear hw3 hg
          refine (lit_is hv (by have := closC n c A2 c2 w3 h1 (by omega) (by rw [← HXS.out]; exact HI3.out); rw [← HXS.out] at this ⊢; exact this)).mono ?_
          rintro e w4 ⟨rfl, b4⟩
          replace q0 := ((bcell b4).1 _ _ hg3).trans q0
          replace q1 := ((bcell b4).1 _ _ hg3).trans q1
          have HB3 := Bx.mk (HBW3.out.trans (b4.mono HBW3.out.size))
          have HO3 := Bx.mk (own_below HOW3.out b4 (Nat.le_refl _))
          have hz4 := HB3.out.size
          clear b4
          go_wp2_with fail
          go_roundw
          case rel => exact ⟨c, N, _, by omega, by go_num, HO3.out, HS, HB3.out⟩
          case measure => simp [intOf]
      · have HS : Bx (N + cu (cmP n k) c = cu (cmP n k) M) := ⟨by have h2 := HN.out; rw [cu_miss (show cmP n k c = false by unfold cmP; rw [HP.out]; simp [hp])] at h2; omega⟩
        have hpb : ((p : Int) != (k : Int)) = true := by simp; omega
        clear hp
        go_wp2_with (go_at_call 67; refine (HO.out _).mono ?_; rintro e w' ⟨rfl, rfl⟩)
        go_roundw
        case rel => exact ⟨c, N, _, by omega, by go_num, hown, HS, hb⟩
        case measure => simp [intOf]
set_option maxHeartbeats 2000000 in
set_option maxRecDepth 20000 in
theorem implCm_any (n k : Int) (w : World) :
    Calls Try.prog 18 #[.int .i64 n, .int .i64 k] w fun e w' => e = .returned (.int .i64 (cmI n k)) ∧ Below w.heap.size w w' := by
  cases h1 : inB n 1 10 with
  | false =>
    have HR : Bx (cmI n k = -1) := ⟨by simp [cmI, h1]⟩
    go_enter Try.func18, Try.ntmps18
    go_wp2_with (go_at_call 38; refine (within_any _ _ _ _).mono ?_; rintro e w' ⟨rfl, rfl⟩)
    go_ret
    exact ⟨ret_int HR.out.symm, Below.refl _ _⟩
  | true =>
  cases h2 : inB k 1 n with
  | false =>
    have HR : Bx (cmI n k = -1) := ⟨by simp [cmI, h2]⟩
    go_enter Try.func18, Try.ntmps18
    go_wp2_with (go_at_call 38; refine (within_any _ _ _ _).mono ?_; rintro e w' ⟨rfl, rfl⟩)
    go_ret
    exact ⟨ret_int HR.out.symm, Below.refl _ _⟩
  | true =>
    have b1 := inB_iff.1 h1
    have b2 := inB_iff.1 h2
    have HR : Bx (cmI n k = (cu (cmP n.toNat k.toNat) (2 ^ n.toNat) : Nat)) := ⟨by simp [cmI, h1, h2]⟩
    obtain ⟨n', rfl⟩ := Int.eq_ofNat_of_zero_le (show 0 ≤ n by omega)
    obtain ⟨k', rfl⟩ := Int.eq_ofNat_of_zero_le (show 0 ≤ k by omega)
    rw [Int.toNat_natCast, Int.toNat_natCast] at HR
    have hn1 : 1 ≤ n' := by omega
    have hn2 : n' ≤ 10 := by omega
    have hk1 : k' ≤ n' := by omega
    clear b1 b2
    go_enter Try.func18, Try.ntmps18
    go_wp2_with (go_at_call 38; refine (within_any _ _ _ _).mono ?_; rintro e w' ⟨rfl, rfl⟩)
    refine (rhFrom_any _ _ _ hn1 hn2 hk1).mono ?_
    rintro e w2 ⟨⟨A, c, rfl⟩, b⟩
    go_wp2_with fail
    go_ret
    exact ⟨ret_int HR.out.symm, b⟩
end Go.Proofs.Ytgfdmjhdfddopaa
