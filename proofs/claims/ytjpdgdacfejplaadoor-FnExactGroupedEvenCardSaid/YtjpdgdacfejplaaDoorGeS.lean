/- Even rhythms by groups: the reference. -/
import Derived.Test.YtjpdgdacfejplaaDoorGeD
import Derived.Test.YtjpdgdacfejplaaDoorGeP
import Derived.Test.YtjpdgdacfejplaaDoorBas
namespace Go.Proofs.YtjpdgdacfejplaaDoor
open Go.RowKit
set_option maxRecDepth 20000

set_option maxHeartbeats 400000 in
theorem l06OkG_any (k n : Int) (w : World) : Calls Tryd.prog 9 #[.int .i64 k, .int .i64 n] w fun e w' => e = .returned (.bool (inB n 1 24 && inB k 0 n)) ∧ w = w' := by
  cases h1 : inB n 1 24 with
  | false =>
    go_enter Tryd.func9, Tryd.ntmps9
    go_wp2_with (go_at_call 17; refine (l01In_any _ _ _ _).mono ?_; rintro e w' ⟨rfl, rfl⟩)
    go_ret
    exact ⟨rfl, rfl⟩
  | true =>
    cases h2 : inB k 0 n with
    | false =>
      go_enter Tryd.func9, Tryd.ntmps9
      go_wp2_with (go_at_call 17; refine (l01In_any _ _ _ _).mono ?_; rintro e w' ⟨rfl, rfl⟩)
      go_ret
      exact ⟨rfl, rfl⟩
    | true =>
      go_enter Tryd.func9, Tryd.ntmps9
      go_wp2_with (go_at_call 17; refine (l01In_any _ _ _ _).mono ?_; rintro e w' ⟨rfl, rfl⟩)
      go_ret
      exact ⟨rfl, rfl⟩
set_option maxHeartbeats 4000000 in
theorem specGe_in (k n : Nat) (h1 : 1 ≤ n) (hn : n ≤ 24) (hk : k ≤ n) (w : World) :
    Calls Tryd.prog 4 #[.int .i64 k, .int .i64 n] w (GivesRB w (geS k n) (geL k n) (geOk k n)) := by
  obtain ⟨e1, e2, e3⟩ := ge_in h1 hn hk
  rw [e1, e2, e3]
  obtain ⟨G, _, _, hlen, hfm, hch⟩ := g_facts h1 hn hk
  clear e1 e2 e3
  have HGo := Bx.mk G.go
  have HOk := Bx.mk G.ok
  have HSt := Bx.mk G.stop
  have HLn := Bx.mk hlen
  have HFm := Bx.mk hfm
  clear G hlen hfm hch
  obtain ⟨N, hN⟩ : ∃ N, N = gN sStep k n := ⟨_, rfl⟩
  obtain ⟨q, hq⟩ : ∃ q : Nat, q = n - k := ⟨_, rfl⟩
  have hqi : (n : Int) - (k : Int) = (q : Int) := by omega
  have HS0 : Bx (gAt sStep k n 0 = ([120], [46], k, q)) := ⟨by rw [hq]; rfl⟩
  have hq24 : q ≤ 24 := by omega
  have hk24 : k ≤ 24 := by omega
  have HT : Bx (gT sStep k n = rep (gAt sStep k n N).1 (gAt sStep k n N).2.2.1 ++ rep (gAt sStep k n N).2.1 (gAt sStep k n N).2.2.2) := ⟨by rw [hN]; rfl⟩
  rw [← hN] at HGo HOk HSt
  have i1 : (inB (n : Int) 1 24 && inB (k : Int) 0 n) = true := by rw [inB_yes (by omega), inB_yes (by omega)]; rfl
  clear hN hq
  obtain ⟨W0, hW0⟩ : ∃ W0, W0 = w.alloc (.cells #[.int .i64 0, .slice none 0 0] 24) := ⟨_, rfl⟩
  have bw : Below w.heap.size w W0 := by rw [hW0]; exact below_alloc _ _
  have hz : w.heap.size < W0.heap.size := by rw [hW0]; simp
  have R0 : Blk W0 w.heap.size 24 #[.int .i64 0, .slice none 0 0] := by rw [hW0]; exact Blk.new w _ _
  go_enter Tryd.func4, Tryd.ntmps4
  go_wp2_with fail
  rw [← hW0]
  clear hW0
  refine (l06OkG_any _ _ _).mono ?_
  rintro e w' ⟨rfl, rfl⟩
  rw [i1]
  clear i1
  go_wp2_with fail
  go_loopw [6, 7, 8, 9] (fun fv lv av bv wr => ∃ i : Nat, i ≤ N ∧ fv = .string ⟨(gAt sStep k n i).1.toArray⟩ ∧ lv = .string ⟨(gAt sStep k n i).2.1.toArray⟩ ∧ av = .int .i64 (gAt sStep k n i).2.2.1 ∧ bv = .int .i64 (gAt sStep k n i).2.2.2 ∧ wr = W0) (fun _ _ av bv _ => (intOf av).toNat + (intOf bv).toNat)
  case atStart => exact ⟨0, by omega, rfl, rfl, rfl, by rw [HS0.out], rfl⟩
  case round =>
    obtain ⟨i, hi, rfl, rfl, rfl, rfl, rfl⟩ := hrel
    obtain ⟨⟨F, L, a, b⟩, hs⟩ : ∃ s, s = gAt sStep k n i := ⟨_, rfl⟩
    have hO := HOk.out i hi
    rw [← hs] at hO ⊢
    simp only at hO ⊢
    obtain ⟨hF, hL, ha, hb⟩ := hO
    obtain ⟨SF, hSF⟩ : ∃ S : ByteArray, S = ⟨F.toArray⟩ := ⟨_, rfl⟩
    obtain ⟨SL, hSL⟩ : ∃ S : ByteArray, S = ⟨L.toArray⟩ := ⟨_, rfl⟩
    have hSFz : SF.size ≤ 24 := by rw [hSF]; show (F.toArray).size ≤ 24; simpa using hF
    have hSLz : SL.size ≤ 24 := by rw [hSL]; show (L.toArray).size ≤ 24; simpa using hL
    by_cases hlt : i < N
    · obtain ⟨hC, hM⟩ := HGo.out i hlt
      have hnx : gAt sStep k n (i + 1) = sStep (F, L, a, b) := by rw [hs]; rfl
      rw [hnx, ← hs] at hM
      rw [← hs] at hC
      simp [gCond] at hC
      have h1a : (a : Int) > 0 := by omega
      have h2b : (b : Int) > 1 := by omega
      by_cases hab : a < b
      · have habi : (a : Int) < (b : Int) := by omega
        have hstep : sStep (F, L, a, b) = (F ++ L, L, a, b - a) := by simp [sStep, hab]
        rw [hstep] at hnx hM
        obtain ⟨d, hd⟩ : ∃ d : Nat, d = b - a := ⟨_, rfl⟩
        have hdi : (b : Int) - (a : Int) = (d : Int) := by omega
        rw [← hd] at hnx hM
        have hd24 : d ≤ 24 := by omega
        have HN := Bx.mk hnx
        have HA : Bx (SF ++ SL = ⟨(F ++ L).toArray⟩) := ⟨by rw [hSF, hSL, bs_add]⟩
        have HL : Bx (SL = ⟨L.toArray⟩) := ⟨hSL⟩
        rw [← hSF, ← hSL]
        simp only at hM
        clear hnx hs hSF hSL hF hL hC hstep
        go_wp2_with fail
        go_roundw
        case rel => exact ⟨i + 1, by omega, by rw [HN.out, HA.out], by rw [HN.out, HL.out], by rw [HN.out], by rw [HN.out, hd], trivial⟩
        case measure => simp [intOf]; omega
      · have habi : ¬ (a : Int) < (b : Int) := by omega
        have hstep : sStep (F, L, a, b) = (F ++ L, F, b, a - b) := by simp [sStep, hab]
        rw [hstep] at hnx hM
        obtain ⟨d, hd⟩ : ∃ d : Nat, d = a - b := ⟨_, rfl⟩
        have hdi : (a : Int) - (b : Int) = (d : Int) := by omega
        rw [← hd] at hnx hM
        have hd24 : d ≤ 24 := by omega
        have HN := Bx.mk hnx
        have HA : Bx (SF ++ SL = ⟨(F ++ L).toArray⟩) := ⟨by rw [hSF, hSL, bs_add]⟩
        have HL : Bx (SF = ⟨F.toArray⟩) := ⟨hSF⟩
        rw [← hSF, ← hSL]
        simp only at hM
        clear hnx hs hSF hSL hF hL hC hstep
        go_wp2_with fail
        go_roundw
        case rel => exact ⟨i + 1, by omega, by rw [HN.out, HA.out], by rw [HN.out, HL.out], by rw [HN.out], by rw [HN.out, hd], trivial⟩
        case measure => simp [intOf]; omega
    · have hie : i = N := by omega
      rw [hie] at hs
      have hC := HSt.out
      rw [← hs] at hC
      simp [gCond] at hC
      rw [← hs] at HT
      simp only at HT
      rw [← hSF, ← hSL]
      have HSF := Bx.mk hSF
      have HSL := Bx.mk hSL
      have hLen : (rep F a).length + (rep L b).length = n := by
        have := HLn.out
        rw [HT.out, List.length_append] at this; exact this
      have HRa : Bx (∀ j, j ≤ a → (rep F j).length ≤ 24) := ⟨fun j hj => by
        have h := Nat.mul_le_mul_right F.length hj
        rw [rep_len] at hLen ⊢; omega⟩
      have HRb : Bx (∀ j, j ≤ b → (rep F a ++ rep L j).length ≤ 24) := ⟨fun j hj => by
        have h := Nat.mul_le_mul_right L.length hj
        rw [rep_len L b] at hLen
        rw [List.length_append, rep_len L j]; omega⟩
      clear hs HGo HOk HSt HS0 hSF hSL hie hi hlt hLen
      refine (show Bx ((a : Int) > 0 ∧ ¬ (b : Int) > 1 ∨ ¬ (a : Int) > 0) from ⟨by omega⟩).out.elim (fun ⟨ca, cb⟩ => ?_) (fun ca => ?_)
      all_goals
        clear hC
        go_wp2_with fail
        go_loopw [12, 13] (fun sv iv wq => ∃ j : Nat, j ≤ a ∧ iv = .int .i64 j ∧ sv = .string ⟨(rep F j).toArray⟩ ∧ wq = wr) (fun _ iv _ => a - (intOf iv).toNat)
        case atStart => exact ⟨0, by omega, rfl, rfl, rfl⟩
        case round =>
          obtain ⟨j, hj, rfl, rfl, rfl⟩ := hrel
          obtain ⟨T, hT⟩ : ∃ T : ByteArray, T = ⟨(rep F j).toArray⟩ := ⟨_, rfl⟩
          have hTs : T.size ≤ 24 := by
            have := HRa.out j hj
            rw [hT]; show ((rep F j).toArray).size ≤ 24; simpa using this
          rw [← hT]
          by_cases hlj : j < a
          · have hlji : (j : Int) < (a : Int) := by omega
            first
            | (exfalso; omega)
            | (have HA : Bx (T ++ SF = ⟨(rep F (j + 1)).toArray⟩) := ⟨by rw [hT, HSF.out, bs_add]; rfl⟩
               clear hT
               go_wp2_with fail
               go_roundw
               case rel => exact ⟨j + 1, by omega, by go_num, by rw [HA.out], trivial⟩
               case measure => simp [intOf]; omega)
          · have hje : j = a := by omega
            have hlji : ¬ (j : Int) < (a : Int) := by omega
            have HT1 : Bx (T = ⟨(rep F a).toArray⟩) := ⟨by rw [hT, hje]⟩
            clear hT hje hlj
            go_wp2_with fail
            clear hlji hj hTs
            go_loopw [12, 14] (fun sv iv wq => ∃ j : Nat, j ≤ b ∧ iv = .int .i64 j ∧ sv = .string ⟨(rep F a ++ rep L j).toArray⟩ ∧ wq = wr) (fun _ iv _ => b - (intOf iv).toNat)
            case atStart => exact ⟨0, by omega, rfl, by rw [HT1.out]; simp [rep], rfl⟩
            case round =>
              obtain ⟨j, hj, rfl, rfl, rfl⟩ := hrel
              obtain ⟨U, hU⟩ : ∃ U : ByteArray, U = ⟨(rep F a ++ rep L j).toArray⟩ := ⟨_, rfl⟩
              have hUs : U.size ≤ 24 := by
                have := HRb.out j hj
                rw [hU]; show ((rep F a ++ rep L j).toArray).size ≤ 24; simpa using this
              rw [← hU]
              by_cases hlj : j < b
              · have hlji : (j : Int) < (b : Int) := by omega
                have HA : Bx (U ++ SL = ⟨(rep F a ++ rep L (j + 1)).toArray⟩) := ⟨by rw [hU, HSL.out, bs_add, rep_succ, List.append_assoc]⟩
                clear hU
                go_wp2_with fail
                go_roundw
                case rel => exact ⟨j + 1, by omega, by go_num, by rw [HA.out], trivial⟩
                case measure => simp [intOf]; omega
              · have hje : j = b := by omega
                have hlji : ¬ (j : Int) < (b : Int) := by omega
                have hU1 : U = ⟨(gT sStep k n).toArray⟩ := by rw [hU, hje, HT.out]
                clear hU hje hlj
                go_wp2_with fail
                refine (specParse_any (gT sStep k n) n h1 hn HLn.out HFm.out _).mono ?_
                rintro e w3 ⟨A, c, rfl, io, b3⟩
                obtain ⟨W4, hW4⟩ : ∃ W4, W4 = w3.alloc (.cells #[.int .i64 n, .slice A (posL (gT sStep k n) n).length c] 24) := ⟨_, rfl⟩
                have b4 : Below w3.heap.size w3 W4 := by rw [hW4]; exact below_alloc _ _
                have hN4 : Blk W4 w3.heap.size 24 #[.int .i64 n, .slice A (posL (gT sStep k n) n).length c] := by rw [hW4]; exact Blk.new w3 24 #[.int .i64 n, .slice A (posL (gT sStep k n) n).length c]
                have R3 := R0.below b3 hz
                have bw3 := bw.trans (b3.mono bw.size)
                have R4 := R3.below b4 R3.lt
                have IO4 := io.below b4 (Nat.le_refl _)
                have bw4 := bw3.trans (b4.mono bw3.size)
                have n0 := hN4.at_ (i := 0) rfl
                have n1 := hN4.at_ (i := 1) rfl
                have cr0 := R4.at_ (i := 0) rfl
                have cr1 := R4.at_ (i := 1) rfl
                have fr0 := R4.frozen 0
                have fr1 := R4.frozen 1
                have RF := Bx.mk ((R4.set 0 (.int .i64 (n : Int))).set 1 (.slice A (posL (gT sStep k n) n).length c))
                have HBL := Bx.mk ((bw4.setCell (p := ⟨w.heap.size, 0, none⟩) (Nat.le_refl w.heap.size) (.int .i64 (n : Int))).setCell (p := ⟨w.heap.size, 1, none⟩) (Nat.le_refl w.heap.size) (.slice A (posL (gT sStep k n) n).length c))
                have HIO := Bx.mk (((IO4.setLow (p := ⟨w.heap.size, 0, none⟩) hz (.int .i64 (n : Int))).setLow (p := ⟨w.heap.size, 1, none⟩) hz (.slice A (posL (gT sStep k n) n).length c)).mono (show w.heap.size ≤ wr.heap.size by omega))
                clear b3 b4 hN4 R3 R4 IO4 bw3 bw4 R0 bw io
                subst hW4
                go_wp2_with fail
                exact bodyPost_ret (v := .tuple #[.agg #[.int .i64 (n : Int), .slice A (posL (gT sStep k n) n).length c], .bool true]) (by simp [results, Tryd.results4, go_sem, RF.out.at_ (i := 0) rfl, RF.out.at_ (i := 1) rfl]) rfl ⟨A, c, rfl, HIO.out, HBL.out⟩
end Go.Proofs.YtjpdgdacfejplaaDoor
