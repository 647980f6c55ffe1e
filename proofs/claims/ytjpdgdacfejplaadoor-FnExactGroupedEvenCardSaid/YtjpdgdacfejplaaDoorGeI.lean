/- Even rhythms by groups: the program. -/
import Derived.Test.YtjpdgdacfejplaaDoorGeD
import Derived.Test.YtjpdgdacfejplaaDoorGeQ
import Derived.Test.YtjpdgdacfejplaaDoorGeF
namespace Go.Proofs.YtjpdgdacfejplaaDoor
open Go.RowKit
set_option maxRecDepth 20000

set_option maxHeartbeats 4000000 in
theorem implGe_in (k n : Nat) (h1 : 1 ≤ n) (hn : n ≤ 24) (hk : k ≤ n) (w : World) :
    Calls Tryd.prog 5 #[.int .i64 k, .int .i64 n] w (GivesRB w (geS k n) (geL k n) (geOk k n)) := by
  obtain ⟨e1, e2, e3⟩ := ge_in h1 hn hk
  rw [e1, e2, e3]
  obtain ⟨_, G, hgt, hlen, _, hch⟩ := g_facts h1 hn hk
  rw [← hgt] at hlen hch ⊢
  clear e1 e2 e3
  have HGo := Bx.mk G.go
  have HOk := Bx.mk G.ok
  have HSt := Bx.mk G.stop
  have HLn := Bx.mk hlen
  have HCh := Bx.mk hch
  clear G hlen hch hgt
  obtain ⟨N, hN⟩ : ∃ N, N = gN iStep k n := ⟨_, rfl⟩
  obtain ⟨q, hq⟩ : ∃ q : Nat, q = n - k := ⟨_, rfl⟩
  have hqi : (n : Int) - (k : Int) = (q : Int) := by omega
  have HS0 : Bx (gAt iStep k n 0 = ([120], [46], k, q)) := ⟨by rw [hq]; rfl⟩
  have hq24 : q ≤ 24 := by omega
  have hk24 : k ≤ 24 := by omega
  have HT : Bx (gT iStep k n = rep (gAt iStep k n N).1 (gAt iStep k n N).2.2.1 ++ rep (gAt iStep k n N).2.1 (gAt iStep k n N).2.2.2) := ⟨by rw [hN]; rfl⟩
  rw [← hN] at HGo HOk HSt
  have i1 : inB (n : Int) 1 24 = true := inB_yes (by omega)
  have i2 : inB (k : Int) 0 n = true := inB_yes (by omega)
  clear hN hq
  obtain ⟨W0, hW0⟩ : ∃ W0, W0 = w.alloc (.cells #[.int .i64 0, .slice none 0 0] 24) := ⟨_, rfl⟩
  have bw : Below w.heap.size w W0 := by rw [hW0]; exact below_alloc _ _
  have hz : w.heap.size < W0.heap.size := by rw [hW0]; simp
  have R0 : Blk W0 w.heap.size 24 #[.int .i64 0, .slice none 0 0] := by rw [hW0]; exact Blk.new w _ _
  go_enter Tryd.func5, Tryd.ntmps5
  go_wp2_with fail
  rw [← hW0]
  clear hW0
  go_wp2_with (go_at_call 11; refine (within_any _ _ _ _).mono ?_; rintro e w' ⟨rfl, rfl⟩)
  clear i1 i2
  go_loopw [6, 7, 8, 9] (fun fv lv av bv wr => ∃ i : Nat, i ≤ N ∧ fv = .string ⟨(gAt iStep k n i).1.toArray⟩ ∧ lv = .string ⟨(gAt iStep k n i).2.1.toArray⟩ ∧ av = .int .i64 (gAt iStep k n i).2.2.1 ∧ bv = .int .i64 (gAt iStep k n i).2.2.2 ∧ wr = W0) (fun _ _ av bv _ => (intOf av).toNat + (intOf bv).toNat)
  case atStart => exact ⟨0, by omega, rfl, rfl, rfl, by rw [HS0.out], rfl⟩
  case round =>
    obtain ⟨i, hi, rfl, rfl, rfl, rfl, rfl⟩ := hrel
    obtain ⟨⟨F, L, a, b⟩, hs⟩ : ∃ s, s = gAt iStep k n i := ⟨_, rfl⟩
    have hO := HOk.out i hi
    rw [← hs] at hO ⊢
    simp only at hO ⊢
    obtain ⟨hF, hL, ha, hb⟩ := hO
    obtain ⟨SF, hSF⟩ : ∃ S : ByteArray, S = ⟨F.toArray⟩ := ⟨_, rfl⟩
    obtain ⟨SL, hSL⟩ : ∃ S : ByteArray, S = ⟨L.toArray⟩ := ⟨_, rfl⟩
    have hSFz : SF.size ≤ 24 := by rw [hSF]; show (F.toArray).size ≤ 24; simpa using hF
    have hSLz : SL.size ≤ 24 := by rw [hSL]; show (L.toArray).size ≤ 24; simpa using hL
    by_cases hlt : i < N
    · obtain ⟨hC, hM⟩ := HGo.out i hlt
      have hnx : gAt iStep k n (i + 1) = iStep (F, L, a, b) := by rw [hs]; rfl
      rw [hnx, ← hs] at hM
      rw [← hs] at hC
      simp [gCond] at hC
      have h1a : (a : Int) ≥ 1 := by omega
      have h2b : (b : Int) ≥ 2 := by omega
      by_cases hab : a > b
      · skip
        have habi : (a : Int) > (b : Int) := by omega
        have hstep : iStep (F, L, a, b) = (F ++ L, F, b, a - b) := by unfold iStep; simp only; rw [if_pos hab]; congr 3 <;> omega
        rw [hstep] at hnx hM
        obtain ⟨d, hd⟩ : ∃ d : Nat, d = a - b := ⟨_, rfl⟩
        have hdi : (a : Int) - (b : Int) = (d : Int) := by omega
        have hdj : (b : Int) - (a : Int) = -(d : Int) := by omega
        have hmn : min (a : Int) (b : Int) = (b : Nat) := by omega
        have hmx : max ((d : Int)) (-(d : Int)) = (d : Int) := by omega
        rw [← hd] at hnx hM
        have hd24 : d ≤ 24 := by omega
        have HN := Bx.mk hnx
        have HA : Bx (SF ++ SL = ⟨(F ++ L).toArray⟩) := ⟨by rw [hSF, hSL, bs_add]⟩
        have HL : Bx (SF = ⟨F.toArray⟩) := ⟨hSF⟩
        rw [← hSF, ← hSL]
        simp only at hM
        clear hnx hs hSF hSL hF hL hC hstep
        go_wp2_with fail
        go_roundw
        case rel => exact ⟨i + 1, by omega, by rw [HN.out, HA.out], by rw [HN.out, HL.out], by rw [HN.out], by rw [HN.out]; exact congrArg (Value.int .i64) (show max _ _ = (d : Int) by omega), trivial⟩
        case measure => simp [intOf]; omega
      · skip
        have habi : ¬ (a : Int) > (b : Int) := by omega
        have hstep : iStep (F, L, a, b) = (F ++ L, L, a, b - a) := by unfold iStep; simp only; rw [if_neg hab]; congr 3 <;> omega
        rw [hstep] at hnx hM
        obtain ⟨d, hd⟩ : ∃ d : Nat, d = b - a := ⟨_, rfl⟩
        have hdi : (a : Int) - (b : Int) = -(d : Int) := by omega
        have hdj : (b : Int) - (a : Int) = (d : Int) := by omega
        have hmn : min (a : Int) (b : Int) = (a : Nat) := by omega
        have hmx : max (-(d : Int)) ((d : Int)) = (d : Int) := by omega
        rw [← hd] at hnx hM
        have hd24 : d ≤ 24 := by omega
        have HN := Bx.mk hnx
        have HA : Bx (SF ++ SL = ⟨(F ++ L).toArray⟩) := ⟨by rw [hSF, hSL, bs_add]⟩
        have HL : Bx (SL = ⟨L.toArray⟩) := ⟨hSL⟩
        rw [← hSF, ← hSL]
        simp only at hM
        clear hnx hs hSF hSL hF hL hC hstep
        go_wp2_with fail
        go_roundw
        case rel => exact ⟨i + 1, by omega, by rw [HN.out, HA.out], by rw [HN.out, HL.out], by rw [HN.out], by rw [HN.out]; exact congrArg (Value.int .i64) (show max _ _ = (d : Int) by omega), trivial⟩
        case measure => simp [intOf]; omega
    · have hie : i = N := by omega
      rw [hie] at hs
      have hC := HSt.out
      rw [← hs] at hC
      simp [gCond] at hC
      rw [← hs] at HT
      simp only at HT
      rw [← hSF, ← hSL]
      have hLen : (rep F a).length + (rep L b).length = n := by
        have := HLn.out
        rw [HT.out, List.length_append] at this; exact this
      obtain ⟨RA, hRA⟩ : ∃ S : ByteArray, S = ⟨(rep F a).toArray⟩ := ⟨_, rfl⟩
      obtain ⟨RB, hRB⟩ : ∃ S : ByteArray, S = ⟨(rep L b).toArray⟩ := ⟨_, rfl⟩
      have hRAz : RA.size ≤ 24 := by rw [hRA]; show ((rep F a).toArray).size ≤ 24; rw [List.size_toArray]; omega
      have hRBz : RB.size ≤ 24 := by rw [hRB]; show ((rep L b).toArray).size ≤ 24; rw [List.size_toArray]; omega
      have HA : Bx ((⟨(Lib.repeatL SF.data.toList a).toArray⟩ : ByteArray) = RA) := ⟨by rw [hRA, show SF.data.toList = F by rw [hSF], rep_repeat]⟩
      have HB : Bx ((⟨(Lib.repeatL SL.data.toList b).toArray⟩ : ByteArray) = RB) := ⟨by rw [hRB, show SL.data.toList = L by rw [hSL], rep_repeat]⟩
      have HAB : Bx (RA ++ RB = ⟨(gT iStep k n).toArray⟩) := ⟨by rw [hRA, hRB, bs_add, HT.out]⟩
      clear hs HGo HOk HSt HS0 hSF hSL hie hi hlt hLen hRA hRB HT
      refine (show Bx ((a : Int) ≥ 1 ∧ ¬ (b : Int) ≥ 2 ∨ ¬ (a : Int) ≥ 1) from ⟨by omega⟩).out.elim (fun ⟨ca, cb⟩ => ?_) (fun ca => ?_)
      all_goals
        clear hC
        go_wp2_with fail
        refine (repeat_str SF a _ (by omega) (by omega)).mono ?_
        rintro e w1 ⟨rfl, b1⟩
        rw [HA.out]
        have R1 := R0.below b1 hz
        have bw1 := bw.trans (b1.mono bw.size)
        have hz1 := Nat.lt_of_lt_of_le hz b1.size
        clear b1 R0 bw hz
        go_wp2_with fail
        refine (repeat_str SL b _ (by omega) (by omega)).mono ?_
        rintro e w2 ⟨rfl, b2⟩
        rw [HB.out]
        have R2 := R1.below b2 hz1
        have bw2 := bw1.trans (b2.mono bw1.size)
        have hz2 := Nat.lt_of_lt_of_le hz1 b2.size
        clear b2 R1 bw1 hz1
        go_wp2_with fail
        rw [HAB.out]
        refine (implParse_any (gT iStep k n) n h1 hn HLn.out HCh.out _).mono ?_
        rintro e w3 ⟨A, c, rfl, io, b3⟩
        have R3 := R2.below b3 hz2
        have bw3 := bw2.trans (b3.mono bw2.size)
        have cr0 := R3.at_ (i := 0) rfl
        have cr1 := R3.at_ (i := 1) rfl
        have fr0 := R3.frozen 0
        have fr1 := R3.frozen 1
        have RF := Bx.mk ((R3.set 0 (.int .i64 (n : Int))).set 1 (.slice A (posL (gT iStep k n) n).length c))
        have HBL := Bx.mk ((bw3.setCell (p := ⟨w.heap.size, 0, none⟩) (Nat.le_refl w.heap.size) (.int .i64 (n : Int))).setCell (p := ⟨w.heap.size, 1, none⟩) (Nat.le_refl w.heap.size) (.slice A (posL (gT iStep k n) n).length c))
        have HIO := Bx.mk (((io.setLow (p := ⟨w.heap.size, 0, none⟩) hz2 (.int .i64 (n : Int))).setLow (p := ⟨w.heap.size, 1, none⟩) hz2 (.slice A (posL (gT iStep k n) n).length c)).mono (show w.heap.size ≤ w2.heap.size by omega))
        clear b3 R2 R3 bw2 bw3 io
        go_wp2_with fail
        exact bodyPost_ret (v := .tuple #[.agg #[.int .i64 (n : Int), .slice A (posL (gT iStep k n) n).length c], .bool true]) (by simp [results, Tryd.results5, go_sem, RF.out.at_ (i := 0) rfl, RF.out.at_ (i := 1) rfl]) rfl ⟨A, c, rfl, HIO.out, HBL.out⟩
set_option maxHeartbeats 1000000 in
theorem implGe_any (k n : Int) (w : World) :
    Calls Tryd.prog 5 #[.int .i64 k, .int .i64 n] w (GivesRB w (geS k n) (geL k n) (geOk k n)) := by
  by_cases h1 : inB n 1 24 = true
  · have b1 := inB_iff.1 h1
    by_cases h2 : inB k 0 n = true
    · have b2 := inB_iff.1 h2
      obtain ⟨n', rfl⟩ := Int.eq_ofNat_of_zero_le (show 0 ≤ n by omega)
      obtain ⟨k', rfl⟩ := Int.eq_ofNat_of_zero_le (show 0 ≤ k by omega)
      exact implGe_in k' n' (by omega) (by omega) (by omega) w
    · have HN : Bx (geOk k n = false) := ⟨by rw [inB_iff] at h2; unfold geOk; rw [decide_eq_false_iff_not]; omega⟩
      rw [Bool.not_eq_true] at h2
      obtain ⟨W0, hW0⟩ : ∃ W0, W0 = w.alloc (.cells #[.int .i64 0, .slice none 0 0] 24) := ⟨_, rfl⟩
      have bw : Below w.heap.size w W0 := by rw [hW0]; exact below_alloc _ _
      have hz : w.heap.size < W0.heap.size := by rw [hW0]; simp
      have R0 : Blk W0 w.heap.size 24 #[.int .i64 0, .slice none 0 0] := by rw [hW0]; exact Blk.new w _ _
      go_enter Tryd.func5, Tryd.ntmps5
      go_wp2_with fail
      rw [← hW0]
      clear hW0
      have cr0 := R0.at_ (i := 0) rfl
      have cr1 := R0.at_ (i := 1) rfl
      have fr0 := R0.frozen 0
      have fr1 := R0.frozen 1
      have RF := Bx.mk ((R0.set 0 (.int .i64 0)).set 1 (.slice none 0 0))
      have BF := Bx.mk ((bw.setCell (p := ⟨w.heap.size, 0, none⟩) (show w.heap.size ≤ w.heap.size by omega) (.int .i64 0)).setCell (p := ⟨w.heap.size, 1, none⟩) (show w.heap.size ≤ w.heap.size by omega) (.slice none 0 0))
      clear R0
      go_wp2_with (go_at_call 11; refine (within_any _ _ _ _).mono ?_; rintro e w' ⟨rfl, rfl⟩)
      exact bodyPost_ret (v := .tuple #[.agg #[.int .i64 0, .slice none 0 0], .bool false]) (by simp [results, Tryd.results5, go_sem, RF.out.at_ (i := 0) rfl, RF.out.at_ (i := 1) rfl]) rfl (GivesRB.geno HN.out BF.out)
  · have HN : Bx (geOk k n = false) := ⟨by rw [inB_iff] at h1; unfold geOk; rw [decide_eq_false_iff_not]; omega⟩
    rw [Bool.not_eq_true] at h1
    obtain ⟨W0, hW0⟩ : ∃ W0, W0 = w.alloc (.cells #[.int .i64 0, .slice none 0 0] 24) := ⟨_, rfl⟩
    have bw : Below w.heap.size w W0 := by rw [hW0]; exact below_alloc _ _
    have hz : w.heap.size < W0.heap.size := by rw [hW0]; simp
    have R0 : Blk W0 w.heap.size 24 #[.int .i64 0, .slice none 0 0] := by rw [hW0]; exact Blk.new w _ _
    go_enter Tryd.func5, Tryd.ntmps5
    go_wp2_with fail
    rw [← hW0]
    clear hW0
    have cr0 := R0.at_ (i := 0) rfl
    have cr1 := R0.at_ (i := 1) rfl
    have fr0 := R0.frozen 0
    have fr1 := R0.frozen 1
    have RF := Bx.mk ((R0.set 0 (.int .i64 0)).set 1 (.slice none 0 0))
    have BF := Bx.mk ((bw.setCell (p := ⟨w.heap.size, 0, none⟩) (show w.heap.size ≤ w.heap.size by omega) (.int .i64 0)).setCell (p := ⟨w.heap.size, 1, none⟩) (show w.heap.size ≤ w.heap.size by omega) (.slice none 0 0))
    clear R0
    go_wp2_with (go_at_call 11; refine (within_any _ _ _ _).mono ?_; rintro e w' ⟨rfl, rfl⟩)
    exact bodyPost_ret (v := .tuple #[.agg #[.int .i64 0, .slice none 0 0], .bool false]) (by simp [results, Tryd.results5, go_sem, RF.out.at_ (i := 0) rfl, RF.out.at_ (i := 1) rfl]) rfl (GivesRB.geno HN.out BF.out)
end Go.Proofs.YtjpdgdacfejplaaDoor
