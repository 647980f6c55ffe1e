/- The standard partner of a rhythm: the program. -/
import Derived.Test.YtikifkbgmniobaaGreatStdPlain
import Derived.Test.YtikifkbgmniobaaGreatPps
import Derived.Test.YtikifkbgmniobaaGreatRts
import Derived.Test.YtikifkbgmniobaaGreatStepLaw
import Derived.Test.YtikifkbgmniobaaGreatBas
import Derived.Deep.RegionHeld3
import Derived.Deep.DeepCutAuto
import Derived.Deep.RegionWith
import Derived.Deep.RegionLaw
namespace Go.Proofs.YtikifkbgmniobaaGreat
open Go.RowKit
set_option maxRecDepth 20000

theorem io_one {w : World} {base : Nat} (z : Int) (hb : base ≤ w.heap.size) : IO (w.alloc (.cells #[.int .i64 z] 3)) base (some ⟨w.heap.size, 0, none⟩) 1 [z] :=
  ⟨by simp, by simp, .inr ⟨w.heap.size, #[.int .i64 z], rfl, hb, heap_alloc_new w _, by simp, by simp [ints]⟩⟩
set_option maxHeartbeats 4000000 in
set_option maxRecDepth 20000 in
theorem implStd_any (s : Int) (A : Option Addr) (c : Nat) (xs : List Int) (w : World) (hs : -9223372036854775808 ≤ s ∧ s ≤ 9223372036854775807) (hx : IR w A xs) :
    Calls Tryz.prog 8 #[.agg #[.int .i64 s, .slice A xs.length c]] w (GivesRB w (stdS s xs) (stdL s xs) (rhOk s xs)) := by
  obtain ⟨W0, hW0⟩ : ∃ W0, W0 = (w.alloc (.cells #[.int .i64 s, .slice A xs.length c] 26)).alloc (.cells #[.int .i64 0, .slice none 0 0] 26) := ⟨_, rfl⟩
  have bw : Below w.heap.size w W0 := by rw [hW0]; exact (below_alloc _ _).alloc (by simp) _
  have hz : w.heap.size + 2 ≤ W0.heap.size := by rw [hW0]; simp
  have k0 : W0.cell? ⟨w.heap.size, 0, none⟩ = some (.int .i64 s) := by rw [hW0]; simp [go_sem]
  have k1 : W0.cell? ⟨w.heap.size, 1, none⟩ = some (.slice A xs.length c) := by rw [hW0]; simp [go_sem]
  have R0 : Blk W0 (w.heap.size + 1) 26 #[.int .i64 0, .slice none 0 0] := by rw [hW0]; have := Blk.new (w.alloc (.cells #[.int .i64 s, .slice A xs.length c] 26)) 26 #[.int .i64 0, .slice none 0 0]; simpa using this
  have HX := Bx.mk ((RB.of_ir hx).below bw (Nat.le_refl _))
  have HS := Bx.mk hs
  clear hx hs
  cases h1 : rhOk s xs with
  | false =>
    have HNO := Bx.mk h1
    rw [← h1]
    go_enter Tryz.func8, Tryz.ntmps8
    go_wp2_with fail
    rw [← hW0]
    clear hW0
    refine (lit_b h1 (implRhythmOk_any _ _ _ _ _ HS.out (by exact HX.out.ir))).mono ?_
    clear h1
    rintro e w1 ⟨rfl, b⟩
    replace k0 := ((bcell b).1 _ _ (by omega)).trans k0
    replace k1 := ((bcell b).1 _ _ (by omega)).trans k1
    replace HX := Bx.mk (HX.out.below b (by omega))
    replace R0 := R0.below b (by omega)
    replace bw := bw.trans (b.mono bw.size)
    replace hz := Nat.le_trans hz b.size
    clear b
    have cr0 := R0.at_ (i := 0) rfl
    have cr1 := R0.at_ (i := 1) rfl
    have fr0 := R0.frozen 0
    have fr1 := R0.frozen 1
    have RF := Bx.mk ((R0.set 0 (.int .i64 0)).set 1 (.slice none 0 0))
    have BF := Bx.mk ((bw.setCell (p := ⟨w.heap.size + 1, 0, none⟩) (show w.heap.size ≤ w.heap.size + 1 by omega) (.int .i64 0)).setCell (p := ⟨w.heap.size + 1, 1, none⟩) (show w.heap.size ≤ w.heap.size + 1 by omega) (.slice none 0 0))
    clear R0
    go_wp2_with fail
    refine bodyPost_ret (v := .tuple #[.agg #[.int .i64 0, .slice none 0 0], .bool false]) (by simp [results, Tryz.results8, go_sem, RF.out.at_ (i := 0) rfl, RF.out.at_ (i := 1) rfl]) rfl (GivesRB.stno HNO.out BF.out)
  | true =>
    have HOK := Bx.mk h1
    rw [← h1]
    obtain ⟨hsb, _, _⟩ := rhOk_iff.1 h1
    obtain ⟨n, hn⟩ := Int.eq_ofNat_of_zero_le (show 0 ≤ s by omega)
    subst hn
    have hs12 : 1 ≤ (n : Int) ∧ (n : Int) ≤ 24 := ⟨by omega, by omega⟩
    have hn1 : 1 ≤ n := by omega
    have hn24 : n ≤ 24 := by omega
    obtain ⟨P, hP⟩ : ∃ P, P = ppI n xs := ⟨_, rfl⟩
    have HPP : Bx (∀ cc W, IR W A xs → Calls Tryz.prog 28 #[.agg #[.int .i64 n, .slice A xs.length cc]] W (GivesInts W P)) := ⟨fun cc W h => by rw [hP]; exact implPp_any n A cc xs W HS.out h⟩
    have HPE := Bx.mk hP
    clear hP hsb
    go_enter Tryz.func8, Tryz.ntmps8
    go_wp2_with fail
    rw [← hW0]
    clear hW0
    refine (lit_b h1 (implRhythmOk_any _ _ _ _ _ HS.out (by exact HX.out.ir))).mono ?_
    clear h1
    rintro e w1 ⟨rfl, b⟩
    replace k0 := ((bcell b).1 _ _ (by omega)).trans k0
    replace k1 := ((bcell b).1 _ _ (by omega)).trans k1
    replace HX := Bx.mk (HX.out.below b (by omega))
    replace R0 := R0.below b (by omega)
    replace bw := bw.trans (b.mono bw.size)
    replace hz := Nat.le_trans hz b.size
    clear b
    go_wp2_with fail
    refine (HPP.out _ _ (by exact HX.out.ir)).mono ?_
    rintro e w2 ⟨AP, cP, rfl, io, b⟩
    have HIP0 := Bx.mk (OB.of (io.mono (show w.heap.size + 2 ≤ w1.heap.size from hz)) (Nat.le_refl _))
    clear io HPP
    replace k0 := ((bcell b).1 _ _ (by omega)).trans k0
    replace k1 := ((bcell b).1 _ _ (by omega)).trans k1
    replace HX := Bx.mk (HX.out.below b (by omega))
    replace R0 := R0.below b (by omega)
    replace bw := bw.trans (b.mono bw.size)
    replace hz := Nat.le_trans hz b.size
    clear b
    obtain ⟨W4, hW4⟩ : ∃ W4, W4 = (w2.alloc (.cells #[.int .i64 0] 3)).alloc (.cells #[.int .i64 n, .slice (some ⟨w2.heap.size, 0, none⟩) 1 1] 26) := ⟨_, rfl⟩
    obtain ⟨gl, hgl⟩ : ∃ gl, gl = w2.heap.size := ⟨_, rfl⟩
    obtain ⟨go, hgo⟩ : ∃ go, go = w2.heap.size + 1 := ⟨_, rfl⟩
    have b : Below gl w2 W4 := by rw [hW4, hgl]; exact (below_alloc _ _).alloc (by simp) _
    have HGO : Blk W4 go 26 #[.int .i64 n, .slice (some ⟨gl, 0, none⟩) 1 1] := by rw [hW4, hgo, hgl]; have := Blk.new (w2.alloc (.cells #[.int .i64 0] 3)) 26 #[.int .i64 n, .slice (some ⟨w2.heap.size, 0, none⟩) 1 1]; simpa using this
    have HO0 : IO W4 (w.heap.size + 2) (some ⟨gl, 0, none⟩) 1 [0] := by rw [hW4, hgl]; exact (io_one (w := w2) 0 (by omega)).below (below_alloc _ _) (Nat.le_refl _)
    have hglo : gl < go := by omega
    have hgoW : go < W4.heap.size := by rw [hW4, hgo]; simp
    have hwgl : w.heap.size + 2 ≤ gl := by omega
    rw [← hgl] at HIP0
    have HIP1 := Bx.mk (HIP0.out.below b (Nat.le_refl _))
    have p0 := k0
    have p1 := k1
    have hwl : w.heap.size < w2.heap.size := by omega
    replace k0 := ((bcell b).1 _ _ (by omega)).trans k0
    replace k1 := ((bcell b).1 _ _ (by omega)).trans k1
    replace HX := Bx.mk (HX.out.below b (by omega))
    replace R0 := R0.below b (by omega)
    replace bw := bw.trans (b.mono (by omega))
    clear b HIP0
    go_wp2_with fail
    rw [← hW4, ← hgo, ← hgl]
    clear hW4 p0 p1 hwl
    have HGLx := Bx.mk hgl
    have HGOx := Bx.mk hgo
    clear hgl hgo hz
    refine (implDivisorsOf_any _ _).mono ?_
    rintro e w5 ⟨AD, cD, rfl, io, b⟩
    have hDl := divs_len (n : Int)
    have HDB := Bx.mk (divs_at hs12)
    have HDA := Bx.mk (stTo_all hs12 P)
    obtain ⟨D, hD⟩ : ∃ D, D = divs (n : Int) := ⟨_, rfl⟩
    rw [← hD] at io hDl HDB HDA ⊢
    clear hD
    have HID := Bx.mk (OB.of io (Nat.le_refl _))
    have HGO5 := HGO.below b hgoW
    have HO5 := Bx.mk (HO0.below b (Nat.le_refl _))
    have HIP := Bx.mk (HIP1.out.below b (by omega))
    have hW45 := b.size
    replace k0 := ((bcell b).1 _ _ (by omega)).trans k0
    replace k1 := ((bcell b).1 _ _ (by omega)).trans k1
    replace HX := Bx.mk (HX.out.below b (by omega))
    replace R0 := R0.below b (by omega)
    replace bw := bw.trans (b.mono (by omega))
    clear b HGO HO0 HIP1 io
    go_wp2_with fail
    go_loopw [26] (fun v wr => ∃ (j : Nat) (Ao : Option Addr) (co : Nat) (ol : List Int), j ≤ D.length ∧ v = .int .i64 j ∧ Bx (ol = stAt n P D j) ∧ Bx (Blk wr go 26 #[.int .i64 n, .slice Ao ol.length co]) ∧ Bx (IO wr (w.heap.size + 2) Ao co ol) ∧ Bx (∀ x, Ao = some x → x.block ≠ go) ∧ Bx (Only w5 wr (some ⟨go, 0, none⟩))) (fun v _ => D.length - (intOf v).toNat)
    case atStart => exact ⟨0, some ⟨gl, 0, none⟩, 1, [0], by omega, rfl, ⟨rfl⟩, ⟨HGO5⟩, HO5, ⟨fun x hx => by injection hx with hx; subst hx; simp; omega⟩, ⟨Only.refl _ _⟩⟩
    case round =>
      obtain ⟨j, Ao, co, ol, hj, rfl, HOL, HGOr, HIB, HNE, HON⟩ := hrel
      clear HGO5 HO5
      obtain ⟨WR, rfl⟩ : ∃ WR, WR = wr := ⟨_, rfl⟩
      have hzr := HON.out.size
      have q0 := (HON.out.cellAt (by omega) (by omega)).trans k0
      have q1 := (HON.out.cellAt (by omega) (by omega)).trans k1
      have HXr := Bx.mk (IR.onlyAt HX.out HON.out (by omega))
      have HIDr := Bx.mk (IR.onlyAt HID.out.rb HON.out (by omega))
      have HIPr := Bx.mk (IR.onlyAt HIP.out.rb HON.out (by omega))
      have R0r := Bx.mk (R0.onlyAt HON.out (by omega))
      have hgor : go < WR.heap.size := by omega
      have hook : rhOk n ol = true := by rw [HOL.out]; exact stAt_ok hs12 P D j
      have HOO := Bx.mk hook
      have holl : ol.length ≤ 24 := (rhOk_len hook).1
      clear hook
      by_cases hlt : j < D.length
      · have hji : (j : Int) < (D.length : Int) := by omega
        obtain ⟨bD, oD, eD, hbD, hcD⟩ := HIDr.out.at_ (by omega)
        subst eD
        have dj := hcD j hlt
        have HSX : Bx (stAt n P D (j + 1) = stF n P ol (D[j]?.getD 0)) := ⟨by rw [stAt_succ hlt, HOL.out]⟩
        have hsb : 1 ≤ D[j]?.getD 0 ∧ D[j]?.getD 0 ≤ n := by rw [List.getElem?_eq_getElem hlt]; exact HDB.out _ (List.getElem_mem hlt)
        obtain ⟨s0, hs0⟩ : ∃ s0, s0 = D[j]?.getD 0 := ⟨_, rfl⟩
        rw [← hs0] at dj HSX hsb
        obtain ⟨hsb1, hsb2⟩ := hsb
        obtain ⟨s, rfl⟩ := Int.eq_ofNat_of_zero_le (show 0 ≤ s0 by omega)
        clear hcD hs0
        obtain ⟨p0, hp⟩ : ∃ p0, p0 = primeI (s : Int) := ⟨_, rfl⟩
        have hpb := primeI_bd (n := (s : Int)) (by omega)
        rw [← hp] at hpb
        have HPR : Bx (∀ W, Calls Tryz.prog 30 #[.int .i64 s] W fun e w' => e = .returned (.int .i64 p0) ∧ Below W.heap.size W w') := ⟨fun W => by rw [hp]; exact implPrimeOf_any s W⟩
        have HPI := Bx.mk hp
        clear hp
        by_cases hp0 : p0 = 0
        · subst hp0
          have HN : Bx (ol = stAt n P D (j + 1)) := ⟨by rw [HSX.out]; unfold stF; rw [← HPI.out]; rfl⟩
          go_wp2_with fail
          refine (HPR.out _).mono ?_
          rintro e w6 ⟨rfl, b6⟩
          have h6 := b6.size
          have b6' : Below w5.heap.size WR w6 := b6.mono hzr
          have HG6 : Bx (Blk w6 go 26 #[.int .i64 n, .slice Ao ol.length co]) := ⟨HGOr.out.below b6 hgor⟩
          have HI6 : Bx (IO w6 (w.heap.size + 2) Ao co ol) := ⟨HIB.out.below b6 (Nat.le_refl _)⟩
          have HN6 : Bx (Only w5 w6 (some ⟨go, 0, none⟩)) := ⟨HON.out.after b6'⟩
          have HP6 : Bx (IR w6 AP P) := ⟨HIPr.out.below b6⟩
          have v0 := ((bcell b6).1 _ _ (by omega)).trans q0
          have v1 := ((bcell b6).1 _ _ (by omega)).trans q1
          have h56 : w5.heap.size ≤ w6.heap.size := by omega
          clear b6 b6'
          go_wp2_with fail
          go_roundw
          case rel => exact ⟨j + 1, Ao, co, ol, by omega, by go_num, HN, HG6, HI6, HNE, HN6⟩
          case measure => simp [intOf]; omega
        · have hp2 : 2 ≤ p0 ∧ p0 ≤ (s : Int) := by omega
          obtain ⟨p, rfl⟩ := Int.eq_ofNat_of_zero_le (show 0 ≤ p0 by omega)
          obtain ⟨hp2a, hp2b⟩ := hp2
          have hpz : (((p : Int) == 0)) = false := by rw [beq_eq_false_iff_ne]; omega
          have hpn : ¬ p = 0 := by omega
          clear hpb
          cases hm : memB P (s : Int) with
          | true =>
            have HN : Bx (ol = stAt n P D (j + 1)) := ⟨by rw [HSX.out]; unfold stF; rw [hm, Bool.or_true]; rfl⟩
            go_wp2_with fail
            refine (HPR.out _).mono ?_
            rintro e w6 ⟨rfl, b6⟩
            have h6 := b6.size
            have b6' : Below w5.heap.size WR w6 := b6.mono hzr
            have HG6 : Bx (Blk w6 go 26 #[.int .i64 n, .slice Ao ol.length co]) := ⟨HGOr.out.below b6 hgor⟩
            have HI6 : Bx (IO w6 (w.heap.size + 2) Ao co ol) := ⟨HIB.out.below b6 (Nat.le_refl _)⟩
            have HN6 : Bx (Only w5 w6 (some ⟨go, 0, none⟩)) := ⟨HON.out.after b6'⟩
            have HP6 : Bx (IR w6 AP P) := ⟨HIPr.out.below b6⟩
            have v0 := ((bcell b6).1 _ _ (by omega)).trans q0
            have v1 := ((bcell b6).1 _ _ (by omega)).trans q1
            have h56 : w5.heap.size ≤ w6.heap.size := by omega
            clear b6 b6'
            go_wp2_with fail
            refine (contains_any _ _ _ _ _ (by exact HP6.out)).mono ?_
            rw [hm]
            rintro e w7 ⟨rfl, rfl⟩
            go_wp2_with fail
            go_roundw
            case rel => exact ⟨j + 1, Ao, co, ol, by omega, by go_num, HN, HG6, HI6, HNE, HN6⟩
            case measure => simp [intOf]; omega
          | false =>
            have HNB : Bx (stAt n P D (j + 1) = sumL n ol (stT n s)) := ⟨by rw [HSX.out]; unfold stF; rw [hm, ← HPI.out, hpz]; rfl⟩
            go_wp2_with fail
            refine (HPR.out _).mono ?_
            rintro e w6 ⟨rfl, b6⟩
            have h6 := b6.size
            have b6' : Below w5.heap.size WR w6 := b6.mono hzr
            have HG6 : Bx (Blk w6 go 26 #[.int .i64 n, .slice Ao ol.length co]) := ⟨HGOr.out.below b6 hgor⟩
            have HI6 : Bx (IO w6 (w.heap.size + 2) Ao co ol) := ⟨HIB.out.below b6 (Nat.le_refl _)⟩
            have HN6 : Bx (Only w5 w6 (some ⟨go, 0, none⟩)) := ⟨HON.out.after b6'⟩
            have HP6 : Bx (IR w6 AP P) := ⟨HIPr.out.below b6⟩
            have v0 := ((bcell b6).1 _ _ (by omega)).trans q0
            have v1 := ((bcell b6).1 _ _ (by omega)).trans q1
            have h56 : w5.heap.size ≤ w6.heap.size := by omega
            clear b6 b6'
            go_wp2_with fail
            refine (contains_any _ _ _ _ _ (by exact HP6.out)).mono ?_
            rw [hm]
            rintro e w7 ⟨rfl, rfl⟩
            clear hm
            go_wp2_with fail
            go_loopw [9] (fun v w9 => ∃ t : Nat, 1 ≤ t ∧ t ≤ n ∧ v = .int .i64 t ∧ w9 = w6 ∧ Bx (strip (p : Int) (t : Int) = strip (p : Int) (n : Int))) (fun v _ => (intOf v).toNat)
            case atStart => exact ⟨n, hn1, Nat.le_refl _, rfl, rfl, ⟨rfl⟩⟩
            case round =>
              obtain ⟨t, ht1, htn, rfl, hw9, HT⟩ := hrel
              have hw9' := hw9.symm
              subst hw9'
              clear hw9
              obtain ⟨mt, hmt'⟩ : ∃ mt : Nat, mt = t % p := ⟨_, rfl⟩
              have htm : (t : Int).tmod (p : Int) = (mt : Int) := by rw [hmt']; exact (Int.ofNat_tmod t p).symm
              have hem : (t : Int) % (p : Int) = (mt : Int) := by rw [hmt']; exact (Int.natCast_emod t p).symm
              by_cases hd : mt = 0
              · obtain ⟨u, hu⟩ : ∃ u : Nat, u = t / p := ⟨_, rfl⟩
                have hdp := div_pos_of (p := (p : Int)) (n := (t : Int)) (by omega) (by omega) (by rw [hem]; omega)
                have hue : (t : Int) / (p : Int) = (u : Int) := by rw [hu]; exact (Int.natCast_ediv t p).symm
                rw [hue] at hdp
                have hqd : (t : Int).tdiv (p : Int) = (u : Int) := by rw [hu]; exact (Int.ofNat_tdiv t p).symm
                have hwu : IntKind.i64.wrap (u : Int) = (u : Int) := IntWalk.i64_in _ (by omega)
                have e1 := strip_step (p := (p : Int)) (n := (t : Int)) (by omega) (by omega) (by rw [hem]; omega)
                rw [hue] at e1
                have HT2 : Bx (strip (p : Int) (u : Int) = strip (p : Int) (n : Int)) := ⟨e1.symm.trans HT.out⟩
                clear e1
                have hmz : (((mt : Int) == 0)) = true := by rw [beq_iff_eq]; omega
                have hpi : ¬ (p : Int) = 0 := by omega
                clear hmt' hu hue hem
                subst hd
                go_wp2_with fail
                go_roundw
                case rel => exact ⟨u, by omega, by omega, by go_num, by first | rfl | trivial, HT2⟩
                case measure => simp [intOf]; omega
              · have HTE : Bx (strip (p : Int) (n : Int) = (t : Int)) := ⟨by rw [← HT.out]; exact strip_stop (by rw [hem]; omega)⟩
                have hmz : (((mt : Int) == 0)) = false := by rw [beq_eq_false_iff_ne]; omega
                have hpi : ¬ (p : Int) = 0 := by omega
                obtain ⟨q, hq⟩ : ∃ q : Nat, q = s / p := ⟨_, rfl⟩
                have hqd : (s : Int).tdiv (p : Int) = (q : Int) := by rw [hq]; exact (Int.ofNat_tdiv s p).symm
                have hqe : (s : Int) / (p : Int) = (q : Int) := by rw [hq]; exact (Int.natCast_ediv s p).symm
                have hqb : q ≤ 24 := by rw [hq]; exact Nat.le_trans (Nat.div_le_self _ _) (by omega)
                have hwq : IntKind.i64.wrap (q : Int) = (q : Int) := IntWalk.i64_in _ (by omega)
                have HBS : Bx (∀ i : Nat, stB n s (i + 1) = stB n s i ++ [((i * q * t : Nat) : Int)]) := ⟨fun i => by rw [stB_succ, ← HPI.out, HTE.out, hqe]; simp⟩
                clear hmt' hem hq hqe
                go_wp2_with fail
                go_loopw [10, 49] (fun v i w8 => ∃ x : Nat, x ≤ p ∧ i = .int .i64 x ∧ Row w8 w6.heap.size v (stB n s x) ∧ Below w6.heap.size w6 w8) (fun _ i _ => p - (intOf i).toNat)
                case atStart => exact ⟨0, by omega, rfl, Row.nil _ _, Below.refl _ _⟩
                case round =>
                  obtain ⟨x, hxp, rfl, hrow, hbb⟩ := hrel
                  have hlen : (stB n s x).length ≤ 24 := by rw [stB_len]; omega
                  have hz8 := hbb.size
                  have HO := Bx.mk hrow
                  have HB := Bx.mk hbb
                  clear hrow hbb
                  by_cases hxl : x < p
                  · have hxi : (x : Int) < (p : Int) := by omega
                    obtain ⟨m1, hm1⟩ : ∃ m1 : Nat, m1 = x * q := ⟨_, rfl⟩
                    have hm1b : m1 ≤ 576 := by rw [hm1]; have := Nat.mul_le_mul (show x ≤ 24 by omega) hqb; omega
                    have hm1i : (x : Int) * (q : Int) = (m1 : Int) := by rw [hm1]; simp
                    have hw1 : IntKind.i64.wrap ((x : Int) * (q : Int)) = (m1 : Int) := by rw [hm1i]; exact IntWalk.i64_in _ (by omega)
                    obtain ⟨m2, hm2⟩ : ∃ m2 : Nat, m2 = m1 * t := ⟨_, rfl⟩
                    have hm2b : m2 ≤ 13824 := by rw [hm2]; have := Nat.mul_le_mul hm1b (show t ≤ 24 by omega); omega
                    have hm2i : (m1 : Int) * (t : Int) = (m2 : Int) := by rw [hm2]; simp
                    have hw2 : IntKind.i64.wrap ((m1 : Int) * (t : Int)) = (m2 : Int) := by rw [hm2i]; exact IntWalk.i64_in _ (by omega)
                    have HNX : Bx (stB n s (x + 1) = stB n s x ++ [(m2 : Int)]) := ⟨by rw [HBS.out, hm2, hm1]⟩
                    clear hm1 hm2
                    go_wp2_with (at_builtin; go_must (refine wpList_app1 rfl _ _ rfl w6.heap.size _ (stB n s x) (m2 : Int) rfl rfl (by exact HO.out) (by omega) (by exact hz8) ?_); intro v1 w4 hown1 hb1)
                    have R := Bx.mk (And.intro hown1 (HB.out.trans hb1))
                    clear hown1 hb1
                    go_wp2_with fail
                    go_roundw
                    case rel => exact ⟨x + 1, by omega, by go_num, by rw [HNX.out]; exact R.out.1, R.out.2⟩
                    case measure => simp [intOf]; omega
                  · have hke : x = p := by omega
                    have hxi : ¬ (x : Int) < (p : Int) := by omega
                    obtain ⟨AB, cB, rfl, io8⟩ := HO.out.io (by omega)
                    obtain ⟨BL, hBL⟩ : ∃ BL, BL = stB n s x := ⟨_, rfl⟩
                    obtain ⟨T, hT⟩ : ∃ T, T = stT n s := ⟨_, rfl⟩
                    have hTB : T = coll (modL n BL) := by rw [hT, hBL, hke]; unfold stT; rw [← HPI.out, Int.toNat_natCast]
                    obtain ⟨U, hU⟩ : ∃ U, U = sumL n ol T := ⟨_, rfl⟩
                    have HNU : Bx (U = stAt n P D (j + 1)) := ⟨by rw [HNB.out, hU, hT]⟩
                    have hBb : ∀ z ∈ BL, -1000000000000 ≤ z ∧ z ≤ 1000000000000 := by
                      intro z hz
                      rw [hBL] at hz
                      have key : ∀ y : Nat, y ≤ p → ∀ z ∈ stB n s y, 0 ≤ z ∧ z ≤ 13824 := by
                        intro y
                        induction y with
                        | zero => intro _ z hz; simp [stB] at hz
                        | succ y ih =>
                          intro hy z hz
                          rw [HBS.out, List.mem_append] at hz
                          rcases hz with hz | hz
                          · exact ih (by omega) z hz
                          · simp only [List.mem_singleton] at hz
                            have h1 := Nat.mul_le_mul (show y ≤ 24 by omega) hqb
                            have h2 := Nat.mul_le_mul h1 (show t ≤ 24 by omega)
                            rw [hz]
                            exact ⟨Int.natCast_nonneg _, by omega⟩
                      have := key x (by omega) z hz
                      omega
                    have hTok : rhOk n T = true := by rw [hT]; exact stT_ok hs12 s
                    have HRO : Bx (∀ A' c' W, IR W A' BL → Calls Tryz.prog 33 #[.int .i64 n, .slice A' BL.length c'] W (GivesRh W n T)) := ⟨fun A' c' W h => by rw [hTB]; exact rhythmOf_any n A' c' BL W hs12 hBb (by rw [hBL]; omega) h⟩
                    have HSU : Bx (∀ A' B' c' d' W, IR W A' ol → IR W B' T → Calls Tryz.prog 32 #[.agg #[.int .i64 n, .slice A' ol.length c'], .agg #[.int .i64 n, .slice B' T.length d']] W (GivesRh W n U)) := ⟨fun A' B' c' d' W h1 h2 => by rw [hU]; exact sum_any n A' B' c' d' ol T W HOO.out hTok h1 h2⟩
                    have HI8 : Bx (IR wr AB BL) := ⟨by rw [hBL]; exact io8.reads⟩
                    have hBLl : BL.length ≤ 24 := by rw [hBL]; exact hlen
                    rw [← hBL]
                    clear hTB hBb hTok hT hU hBL hke io8 hlen
                    have hgo6 : go < w6.heap.size := by omega
                    have HG8 := HG6.out.below HB.out hgo6
                    have o0 := HG8.at_ (i := 0) rfl
                    have o1 := HG8.at_ (i := 1) rfl
                    have o0d : wr.drew.cell? ⟨go, 0, none⟩ = some (.int .i64 n) := o0
                    have o1d : wr.drew.cell? ⟨go, 1, none⟩ = some (.slice Ao ol.length co) := o1
                    have z0 := ((bcell HB.out).1 _ _ (by omega)).trans v0
                    have z0d : wr.drew.cell? ⟨w.heap.size, 0, none⟩ = some (.int .i64 n) := z0
                    have HOLr := Bx.mk (HI6.out.reads.below' HB.out (Nat.le_refl _))
                    have hgo8 : go < wr.heap.size := by omega
                    have hwz8 : w.heap.size < wr.heap.size := by omega
                    have HGx := Bx.mk HG8
                    clear HG8
                    go_upto_region 19 with (fail)
                    go_region_with (first
                      | (go_at_call 33; refine (HRO.out _ _ _ (by exact HI8.out)).mono ?_; rintro e w10 ⟨A10, c10, rfl, io10, b10⟩; have hB10 : Bx (Below wr.heap.size wr w10) := ⟨((Below.refl _ _).drew).trans b10⟩; have t0 := ((bcell hB10.out).1 _ _ hgo8).trans o0; have t1 := ((bcell hB10.out).1 _ _ hgo8).trans o1; have HI10 := Bx.mk io10.reads; clear b10 io10)
                      | (go_at_call 32; refine (HSU.out _ _ _ _ _ (HOLr.out.below' hB10.out (Nat.le_refl _)) HI10.out).mono ?_; rintro e w11 ⟨A11, c11, rfl, io11, b11⟩; have hB11 : Bx (Below wr.heap.size wr w11) := ⟨hB10.out.trans (b11.mono hB10.out.size)⟩; have HG11 := HGx.out.below hB11.out hgo8; have y0 := HG11.at_ (i := 0) rfl; have y1 := HG11.at_ (i := 1) rfl; have f0 := HG11.frozen 0; have f1 := HG11.frozen 1; have HG11x := Bx.mk HG11; have HI11 := Bx.mk (io11.mono hB10.out.size); clear HG11 b11 io11))
                    all_goals have HG12 := Bx.mk ((HG11x.out.set 0 (.int .i64 n)).set 1 (.slice A11 U.length c11))
                    all_goals have HI12 := Bx.mk (((HI11.out.setLow (p := ⟨go, 0, none⟩) hgo8 (.int .i64 n)).setLow (p := ⟨go, 1, none⟩) hgo8 (.slice A11 U.length c11)).mono (show w.heap.size + 2 ≤ wr.heap.size by omega))
                    all_goals have HN12 := Bx.mk (((HN6.out.after ((HB.out.trans (hB11.out.mono hz8)).mono h56)).set (i := 0) (.int .i64 n)).set (i := 1) (.slice A11 U.length c11))
                    all_goals have HNE12 : Bx (∀ x, A11 = some x → x.block ≠ go) := ⟨fun x hx => by have := HI11.out.ge x hx; omega⟩
                    all_goals go_wp2_with fail
                    all_goals go_roundw
                    all_goals first
                      | exact ⟨j + 1, A11, c11, U, by omega, by go_num, HNU, HG12, HI12, HNE12, HN12⟩
                      | (simp [intOf]; omega)
      · have hke : j = D.length := by omega
        have HFIN : Bx (ol = stTo n (ppI n xs) (n : Int).toNat) := ⟨by rw [HOL.out, hke, HDA.out, HPE.out]⟩
        have hji : ¬ (j : Int) < (D.length : Int) := by omega
        have bwr : Below w.heap.size w WR := bw.trans (HON.out.below (by omega) (by intro x hx; injection hx with hx; subst hx; simp; omega))
        have g0 := HGOr.out.at_ (i := 0) rfl
        have g1 := HGOr.out.at_ (i := 1) rfl
        have RR := R0r.out
        have cr0 := RR.at_ (i := 0) rfl
        have cr1 := RR.at_ (i := 1) rfl
        have fr0 := RR.frozen 0
        have fr1 := RR.frozen 1
        have RF := Bx.mk ((RR.set 0 (.int .i64 n)).set 1 (.slice Ao ol.length co))
        have BF := Bx.mk ((bwr.setCell (p := ⟨w.heap.size + 1, 0, none⟩) (show w.heap.size ≤ w.heap.size + 1 by omega) (.int .i64 n)).setCell (p := ⟨w.heap.size + 1, 1, none⟩) (show w.heap.size ≤ w.heap.size + 1 by omega) (.slice Ao ol.length co))
        have HIO := Bx.mk (((HIB.out.setLow (p := ⟨w.heap.size + 1, 0, none⟩) (show w.heap.size + 1 < w.heap.size + 2 by omega) (.int .i64 n)).setLow (p := ⟨w.heap.size + 1, 1, none⟩) (show w.heap.size + 1 < w.heap.size + 2 by omega) (.slice Ao ol.length co)).mono (show w.heap.size ≤ w.heap.size + 2 by omega))
        clear RR
        go_wp2_with fail
        refine bodyPost_ret (v := .tuple #[.agg #[.int .i64 n, .slice Ao ol.length co], .bool true]) (by simp [results, Tryz.results8, go_sem, RF.out.at_ (i := 0) rfl, RF.out.at_ (i := 1) rfl]) rfl (GivesRB.styes HOK.out HFIN.out HIO.out BF.out)
end Go.Proofs.YtikifkbgmniobaaGreat
