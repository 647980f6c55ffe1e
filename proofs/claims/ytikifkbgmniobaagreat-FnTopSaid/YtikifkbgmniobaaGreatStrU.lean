/- Units and stretched rhythms, for all units. -/
import Derived.Test.YtikifkbgmniobaaGreatMv
import Derived.Deep.DeepCutAuto
namespace Go.Proofs.YtikifkbgmniobaaGreat
open Go.RowKit
set_option maxRecDepth 20000

theorem unit_all (n u : Nat) (hn : 1 ≤ n ∧ n ≤ 24) (hu : 1 ≤ u ∧ u ≤ max 1 (n - 1)) (w : World) : Calls Tryz.prog 44 #[.int .i64 u, .int .i64 n] w fun e w' => e = .returned (.bool (Nat.gcd u n == 1)) ∧ Below w.heap.size w w' := by
  obtain ⟨q, hq⟩ : ∃ q, q = Nat.gcd u n := ⟨_, rfl⟩
  have HGC : Bx (∀ W, Calls Tryz.prog 64 #[.int .i64 u, .int .i64 n] W fun e w' => e = .returned (.int .i64 (q : Int)) ∧ Below W.heap.size W w') := ⟨fun W => by
    refine (gcd_any u n (by omega) (by omega) (by omega) (by omega) W).mono ?_
    rintro e w' ⟨rfl, k, rfl⟩
    exact ⟨by rw [hq]; rfl, bdrewN_refl _ _⟩⟩
  rw [← hq]
  obtain ⟨bq, hbq⟩ : ∃ bq, bq = (q == 1) := ⟨_, rfl⟩
  have hqb : ((q : Int) == 1) = bq := by rw [hbq, Bool.eq_iff_iff]; simp; omega
  rw [← hbq]
  clear hq hbq
  by_cases h3 : n ≤ 2
  · have hu1 : u = 1 := by omega
    subst hu1
    have hin : inB 1 1 1 = true := by decide
    have : n = 1 ∨ n = 2 := by omega
    rcases this with rfl | rfl
    · go_enter Tryz.func44, Tryz.ntmps44
      go_wp2_with (go_at_call 52; refine (within_any _ _ _ _).mono ?_; rintro e w' ⟨rfl, rfl⟩)
      refine (HGC.out _).mono ?_
      rintro e w' ⟨rfl, b⟩
      have HB := Bx.mk b
      clear b
      go_wp2_with fail
      go_ret
      exact ⟨rfl, HB.out⟩
    · go_enter Tryz.func44, Tryz.ntmps44
      go_wp2_with (go_at_call 52; refine (within_any _ _ _ _).mono ?_; rintro e w' ⟨rfl, rfl⟩)
      refine (HGC.out _).mono ?_
      rintro e w' ⟨rfl, b⟩
      have HB := Bx.mk b
      clear b
      go_wp2_with fail
      go_ret
      exact ⟨rfl, HB.out⟩
  · obtain ⟨v, hv⟩ : ∃ v : Nat, v = n - 1 := ⟨_, rfl⟩
    have hni : (n : Int) - 1 = (v : Int) := by omega
    have hin : inB (u : Int) 1 (v : Int) = true := inB_iff.2 ⟨by omega, by omega⟩
    have hmx : max (v : Int) 1 = (v : Int) := by omega
    have t1 : ¬ (v : Int) ≤ 1 := by omega
    have t2 : (1 : Int) < (v : Int) := by omega
    have t3 : 1 < v := by omega
    clear hv h3
    go_enter Tryz.func44, Tryz.ntmps44
    go_wp2_with (go_at_call 52; refine (within_any _ _ _ _).mono ?_; rintro e w' ⟨rfl, rfl⟩)
    refine (HGC.out _).mono ?_
    rintro e w' ⟨rfl, b⟩
    have HB := Bx.mk b
    clear b
    go_wp2_with fail
    go_ret
    exact ⟨rfl, HB.out⟩
set_option maxHeartbeats 1000000 in
theorem stretch_yes (s : Int) (A : Option Addr) (c : Nat) (xs : List Int) (n u : Nat) (hsn : s = n) (hu : 1 ≤ u ∧ u ≤ max 1 (n - 1)) (hgu : Nat.gcd u n = 1) (w : World) (hok : rhOk s xs = true) (hx : IR w A xs) :
    Calls Tryz.prog 19 #[.agg #[.int .i64 s, .slice A xs.length c], .int .i64 u] w (GivesRB w s (stL s xs (u : Int)) true) := by
  obtain ⟨⟨hs1, hs2⟩, hxb, _⟩ := rhOk_iff.1 hok
  have HXB := Bx.mk hxb
  have hll := (rhOk_len hok).1
  obtain ⟨W0, hW0⟩ : ∃ W0, W0 = (w.alloc (.cells #[.int .i64 s, .slice A xs.length c] 26)).alloc (.cells #[.int .i64 0, .slice none 0 0] 26) := ⟨_, rfl⟩
  have bw : Below w.heap.size w W0 := by rw [hW0]; exact (below_alloc _ _).alloc (by simp) _
  have hz : w.heap.size < W0.heap.size := by rw [hW0]; simp <;> omega
  have R0 : Blk W0 (w.heap.size + 1) 26 #[.int .i64 0, .slice none 0 0] := by rw [hW0]; have := Blk.new (w.alloc (.cells #[.int .i64 s, .slice A xs.length c] 26)) 26 #[.int .i64 0, .slice none 0 0]; simpa using this
  have hz2 : w.heap.size + 1 < W0.heap.size := by rw [hW0]; simp <;> omega
  have HUN : Bx (∀ W, Calls Tryz.prog 44 #[.int .i64 u, .int .i64 s] W fun e w' => e = .returned (.bool true) ∧ Below W.heap.size W w') := ⟨fun W => by rw [hsn]; have := unit_all n u (by omega) hu W; rw [show (Nat.gcd u n == 1) = true by rw [beq_iff_eq]; exact hgu] at this; exact this⟩
  have hub : u ≤ 24 := by omega
  clear hu hsn hgu
  have k0 : W0.cell? ⟨w.heap.size, 0, none⟩ = some (.int .i64 s) := by rw [hW0]; simp [go_sem]
  have k1 : W0.cell? ⟨w.heap.size, 1, none⟩ = some (.slice A xs.length c) := by rw [hW0]; simp [go_sem]
  have HX := Bx.mk ((RB.of_ir hx).below bw (Nat.le_refl _))
  have HOK := Bx.mk hok
  have HS : Bx (-9223372036854775808 ≤ s ∧ s ≤ 9223372036854775807) := ⟨by omega⟩
  clear hx hxb
  go_enter Tryz.func19, Tryz.ntmps19
  go_wp2_with fail
  rw [← hW0]
  clear hW0
  refine (lit_b hok (implRhythmOk_any _ _ _ _ _ HS.out (by exact HX.out.ir))).mono ?_
  clear hok
  rintro e w1 ⟨rfl, b⟩
  replace k0 := ((bcell b).1 _ _ (by omega)).trans k0
  replace k1 := ((bcell b).1 _ _ (by omega)).trans k1
  replace HX := Bx.mk (HX.out.below b (by omega))
  replace bw := bw.trans (b.mono bw.size)
  replace R0 := R0.below b hz2
  have hz3 : w.heap.size + 2 ≤ w1.heap.size := by have := b.size; omega
  clear b
  go_wp2_with fail
  refine (HUN.out _).mono ?_
  rintro e w3 ⟨rfl, b⟩
  replace k0 := ((bcell b).1 _ _ (by omega)).trans k0
  replace k1 := ((bcell b).1 _ _ (by omega)).trans k1
  replace HX := Bx.mk (HX.out.below b (by omega))
  replace bw := bw.trans (b.mono bw.size)
  replace R0 := R0.below b (by omega)
  replace hz3 : w.heap.size + 2 ≤ w3.heap.size := Nat.le_trans hz3 b.size
  clear b
  go_wp2_with fail
  refine (stretched_any _ _ _ _ _ _ ⟨hs1, hs2⟩ (fun x hx => by have := HXB.out x hx; omega) (by omega) (by omega) (by exact HX.out.ir)).mono ?_
  rintro e w2 ⟨A2, c2, rfl, io, b⟩
  replace R0 := R0.below b (by omega)
  have cr0 := R0.at_ (i := 0) rfl
  have cr1 := R0.at_ (i := 1) rfl
  have fr0 := R0.frozen 0
  have fr1 := R0.frozen 1
  replace bw := bw.trans (b.mono bw.size)
  have RF := Bx.mk ((R0.set 0 (.int .i64 s)).set 1 (.slice A2 (stL s xs (u : Int)).length c2))
  have BF := Bx.mk ((bw.setCell (p := ⟨w.heap.size + 1, 0, none⟩) (show w.heap.size ≤ w.heap.size + 1 by omega) (.int .i64 s)).setCell (p := ⟨w.heap.size + 1, 1, none⟩) (show w.heap.size ≤ w.heap.size + 1 by omega) (.slice A2 (stL s xs (u : Int)).length c2))
  have HIO := Bx.mk ((io.setLow (p := ⟨w.heap.size + 1, 0, none⟩) (show w.heap.size + 1 < w3.heap.size by omega) (.int .i64 s)).setLow (p := ⟨w.heap.size + 1, 1, none⟩) (show w.heap.size + 1 < w3.heap.size by omega) (.slice A2 (stL s xs (u : Int)).length c2))
  clear R0 io b
  generalize stL s xs (u : Int) = L at *
  go_wp2_with fail
  exact bodyPost_ret (v := .tuple #[.agg #[.int .i64 s, .slice A2 L.length c2], .bool true]) (by simp [results, Tryz.results19, go_sem, RF.out.at_ (i := 0) rfl, RF.out.at_ (i := 1) rfl]) rfl ⟨A2, c2, rfl, HIO.out.mono (by omega), BF.out⟩
set_option maxHeartbeats 1000000 in
theorem stretch_not (s : Int) (A : Option Addr) (c : Nat) (xs : List Int) (n u : Nat) (hsn : s = n) (hu : 1 ≤ u ∧ u ≤ max 1 (n - 1)) (hgu : Nat.gcd u n ≠ 1) (w : World) (hok : rhOk s xs = true) (hx : IR w A xs) :
    Calls Tryz.prog 19 #[.agg #[.int .i64 s, .slice A xs.length c], .int .i64 u] w (GivesRB w 0 [] false) := by
  obtain ⟨⟨hs1, hs2⟩, hxb, _⟩ := rhOk_iff.1 hok
  have HXB := Bx.mk hxb
  have hll := (rhOk_len hok).1
  obtain ⟨W0, hW0⟩ : ∃ W0, W0 = (w.alloc (.cells #[.int .i64 s, .slice A xs.length c] 26)).alloc (.cells #[.int .i64 0, .slice none 0 0] 26) := ⟨_, rfl⟩
  have bw : Below w.heap.size w W0 := by rw [hW0]; exact (below_alloc _ _).alloc (by simp) _
  have hz : w.heap.size < W0.heap.size := by rw [hW0]; simp <;> omega
  have R0 : Blk W0 (w.heap.size + 1) 26 #[.int .i64 0, .slice none 0 0] := by rw [hW0]; have := Blk.new (w.alloc (.cells #[.int .i64 s, .slice A xs.length c] 26)) 26 #[.int .i64 0, .slice none 0 0]; simpa using this
  have hz2 : w.heap.size + 1 < W0.heap.size := by rw [hW0]; simp <;> omega
  have HUN : Bx (∀ W, Calls Tryz.prog 44 #[.int .i64 u, .int .i64 s] W fun e w' => e = .returned (.bool false) ∧ Below W.heap.size W w') := ⟨fun W => by rw [hsn]; have := unit_all n u (by omega) hu W; rw [show (Nat.gcd u n == 1) = false by rw [beq_eq_false_iff_ne]; exact hgu] at this; exact this⟩
  have hub : u ≤ 24 := by omega
  clear hu hsn hgu
  have k0 : W0.cell? ⟨w.heap.size, 0, none⟩ = some (.int .i64 s) := by rw [hW0]; simp [go_sem]
  have k1 : W0.cell? ⟨w.heap.size, 1, none⟩ = some (.slice A xs.length c) := by rw [hW0]; simp [go_sem]
  have HX := Bx.mk ((RB.of_ir hx).below bw (Nat.le_refl _))
  have HOK := Bx.mk hok
  have HS : Bx (-9223372036854775808 ≤ s ∧ s ≤ 9223372036854775807) := ⟨by omega⟩
  clear hx hxb
  go_enter Tryz.func19, Tryz.ntmps19
  go_wp2_with fail
  rw [← hW0]
  clear hW0
  refine (lit_b hok (implRhythmOk_any _ _ _ _ _ HS.out (by exact HX.out.ir))).mono ?_
  clear hok
  rintro e w1 ⟨rfl, b⟩
  replace k0 := ((bcell b).1 _ _ (by omega)).trans k0
  replace k1 := ((bcell b).1 _ _ (by omega)).trans k1
  replace HX := Bx.mk (HX.out.below b (by omega))
  replace bw := bw.trans (b.mono bw.size)
  replace R0 := R0.below b hz2
  have hz3 : w.heap.size + 2 ≤ w1.heap.size := by have := b.size; omega
  clear b
  go_wp2_with fail
  refine (HUN.out _).mono ?_
  rintro e w3 ⟨rfl, b⟩
  replace k0 := ((bcell b).1 _ _ (by omega)).trans k0
  replace k1 := ((bcell b).1 _ _ (by omega)).trans k1
  replace HX := Bx.mk (HX.out.below b (by omega))
  replace bw := bw.trans (b.mono bw.size)
  replace R0 := R0.below b (by omega)
  replace hz3 : w.heap.size + 2 ≤ w3.heap.size := Nat.le_trans hz3 b.size
  clear b
  have cr0 := R0.at_ (i := 0) rfl
  have cr1 := R0.at_ (i := 1) rfl
  have fr0 := R0.frozen 0
  have fr1 := R0.frozen 1
  have RF := Bx.mk ((R0.set 0 (.int .i64 0)).set 1 (.slice none 0 0))
  have BF := Bx.mk ((bw.setCell (p := ⟨w.heap.size + 1, 0, none⟩) (show w.heap.size ≤ w.heap.size + 1 by omega) (.int .i64 0)).setCell (p := ⟨w.heap.size + 1, 1, none⟩) (show w.heap.size ≤ w.heap.size + 1 by omega) (.slice none 0 0))
  clear R0
  go_wp2_with fail
  exact bodyPost_ret (v := .tuple #[.agg #[.int .i64 0, .slice none 0 0], .bool false]) (by simp [results, Tryz.results19, go_sem, RF.out.at_ (i := 0) rfl, RF.out.at_ (i := 1) rfl]) rfl ⟨none, 0, rfl, ⟨Nat.le_refl _, by simp, .inl ⟨rfl, rfl⟩⟩, BF.out⟩
end Go.Proofs.YtikifkbgmniobaaGreat
