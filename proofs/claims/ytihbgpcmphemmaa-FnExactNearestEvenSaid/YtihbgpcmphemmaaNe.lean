/- The even rhythm nearest to a rhythm: the program. -/
import Derived.Test.YtihbgpcmphemmaaNePlain
import Derived.Test.YtihbgpcmphemmaaCmn
import Derived.Test.YtihbgpcmphemmaaRotTo
import Derived.Test.YtihbgpcmphemmaaEv
import Derived.Deep.RegionHeld3
import Derived.Deep.DeepCutAuto
import Derived.Deep.RegionWith
namespace Go.Proofs.Ytihbgpcmphemmaa
open Go.RowKit

set_option maxHeartbeats 4000000 in
set_option maxRecDepth 20000 in
theorem implNe_any (s : Int) (A : Option Addr) (c : Nat) (xs : List Int) (w : World) (hs : -9223372036854775808 ≤ s ∧ s ≤ 9223372036854775807) (hx : IR w A xs) :
    Calls Try.prog 41 #[.agg #[.int .i64 s, .slice A xs.length c]] w (GivesRI w (neS s xs) (neL s xs) (neC s xs)) := by
  obtain ⟨W0, hW0⟩ : ∃ W0, W0 = (w.alloc (.cells #[.int .i64 s, .slice A xs.length c] 26)).alloc (.cells #[.int .i64 0, .slice none 0 0] 26) := ⟨_, rfl⟩
  have bw : Below w.heap.size w W0 := by rw [hW0]; exact (below_alloc _ _).alloc (by simp) _
  have hz : w.heap.size + 2 ≤ W0.heap.size := by rw [hW0]; simp
  have k0 : W0.cell? ⟨w.heap.size, 0, none⟩ = some (.int .i64 s) := by rw [hW0]; simp [go_sem]
  have k1 : W0.cell? ⟨w.heap.size, 1, none⟩ = some (.slice A xs.length c) := by rw [hW0]; simp [go_sem]
  have R0 : Blk W0 (w.heap.size + 1) 26 #[.int .i64 0, .slice none 0 0] := by rw [hW0]; have := Blk.new (w.alloc (.cells #[.int .i64 s, .slice A xs.length c] 26)) 26 #[.int .i64 0, .slice none 0 0]; simpa using this
  have HX := Bx.mk ((RB.of_ir hx).below bw (Nat.le_refl _))
  have HS := Bx.mk hs
  clear hx hs
  cases h1 : rhOk s xs with
  | false =>
    have HNO := Bx.mk h1
    go_enter Try.func41, Try.ntmps41
    go_wp2_with fail
    rw [← hW0]
    clear hW0
    refine (lit_b h1 (implRhythmOk_any _ _ _ _ _ HS.out (by exact HX.out.ir))).mono ?_
    clear h1
    rintro e w1 ⟨rfl, b⟩
    replace k0 := ((bcell b).1 _ _ (by omega)).trans k0
    replace k1 := ((bcell b).1 _ _ (by omega)).trans k1
    replace HX := Bx.mk (HX.out.below b (by omega))
    replace R0 := R0.below b (by omega)
    replace bw := bw.trans (b.mono bw.size)
    replace hz := Nat.le_trans hz b.size
    clear b
    have cr0 := R0.at_ (i := 0) rfl
    have cr1 := R0.at_ (i := 1) rfl
    have fr0 := R0.frozen 0
    have fr1 := R0.frozen 1
    have RF := Bx.mk ((R0.set 0 (.int .i64 0)).set 1 (.slice none 0 0))
    have BF := Bx.mk ((bw.setCell (p := ⟨w.heap.size + 1, 0, none⟩) (show w.heap.size ≤ w.heap.size + 1 by omega) (.int .i64 0)).setCell (p := ⟨w.heap.size + 1, 1, none⟩) (show w.heap.size ≤ w.heap.size + 1 by omega) (.slice none 0 0))
    clear R0
    go_wp2_with fail
    refine bodyPost_ret (v := .tuple #[.agg #[.int .i64 0, .slice none 0 0], .int .i64 (-1)]) (by simp [results, Try.results41, go_sem, RF.out.at_ (i := 0) rfl, RF.out.at_ (i := 1) rfl]) rfl (GivesRI.no HNO.out BF.out)
  | true =>
    have HOK := Bx.mk h1
    obtain ⟨hsb, hmem, _⟩ := rhOk_iff.1 h1
    obtain ⟨hll, hll2⟩ := rhOk_len h1
    obtain ⟨n, hn⟩ := Int.eq_ofNat_of_zero_le (show 0 ≤ s by omega)
    subst hn
    have hs12 : 1 ≤ (n : Int) ∧ (n : Int) ≤ 24 := ⟨by omega, by omega⟩
    have hn1 : 1 ≤ n := by omega
    have hn24 : n ≤ 24 := by omega
    have hxn : xs.length ≤ n := by omega
    obtain ⟨E, hE⟩ : ∃ E, E = evL n xs.length xs.length := ⟨_, rfl⟩
    have HEV : Bx (∀ W, Calls Try.prog 46 #[.int .i64 xs.length, .int .i64 n] W (GivesRB W n E true)) := ⟨fun W => by
      have := implEvn_any xs.length n W
      obtain ⟨e1, e2, e3⟩ := evOk_in (n := n) (k := xs.length) (by omega) (by omega) (by omega)
      rw [e1, e2, e3, ← hE] at this
      exact this⟩
    have hEok : rhOk n E = true := by rw [hE]; exact evL_ok hn1 hn24 hxn
    have hEl : E.length ≤ 24 := (rhOk_len hEok).1
    have HEOK := Bx.mk hEok
    have HEB : Bx (∀ x ∈ E, 0 ≤ x ∧ x < 24) := ⟨fun x hx => by have := (rhOk_iff.1 hEok).2.1 x hx; omega⟩
    have HEE := Bx.mk hE
    clear hmem hsb hE hEok
    go_enter Try.func41, Try.ntmps41
    go_wp2_with fail
    rw [← hW0]
    clear hW0
    refine (lit_b h1 (implRhythmOk_any _ _ _ _ _ HS.out (by exact HX.out.ir))).mono ?_
    clear h1
    rintro e w1 ⟨rfl, b⟩
    replace k0 := ((bcell b).1 _ _ (by omega)).trans k0
    replace k1 := ((bcell b).1 _ _ (by omega)).trans k1
    replace HX := Bx.mk (HX.out.below b (by omega))
    replace R0 := R0.below b (by omega)
    replace bw := bw.trans (b.mono bw.size)
    replace hz := Nat.le_trans hz b.size
    clear b
    go_wp2_with fail
    refine (HEV.out _).mono ?_
    rintro e w2 ⟨A2, c2, rfl, io, b⟩
    have HIE0 := Bx.mk (OB.of (io.mono (show w.heap.size + 2 ≤ w1.heap.size from hz)) (Nat.le_refl _))
    clear io HEV
    replace k0 := ((bcell b).1 _ _ (by omega)).trans k0
    replace k1 := ((bcell b).1 _ _ (by omega)).trans k1
    replace HX := Bx.mk (HX.out.below b (by omega))
    replace R0 := R0.below b (by omega)
    replace bw := bw.trans (b.mono bw.size)
    replace hz := Nat.le_trans hz b.size
    clear b
    obtain ⟨W5, hW5⟩ : ∃ W5, W5 = (w2.alloc (.cells #[.int .i64 n, .slice A2 E.length c2] 26)).alloc (.cells #[.int .i64 n, .slice A2 E.length c2] 26) := ⟨_, rfl⟩
    obtain ⟨ge, hge⟩ : ∃ ge, ge = w2.heap.size := ⟨_, rfl⟩
    obtain ⟨gb, hgb⟩ : ∃ gb, gb = w2.heap.size + 1 := ⟨_, rfl⟩
    have b : Below ge w2 W5 := by rw [hW5, hge]; exact (below_alloc _ _).alloc (by simp) _
    have HGE : Blk W5 ge 26 #[.int .i64 n, .slice A2 E.length c2] := by rw [hW5, hge]; exact (Blk.new w2 26 #[.int .i64 n, .slice A2 E.length c2]).alloc _
    have HGB : Blk W5 gb 26 #[.int .i64 n, .slice A2 E.length c2] := by rw [hW5, hgb]; have := Blk.new (w2.alloc (.cells #[.int .i64 n, .slice A2 E.length c2] 26)) 26 #[.int .i64 n, .slice A2 E.length c2]; simpa using this
    rw [← hge] at HIE0
    have HIE := Bx.mk (HIE0.out.below b (Nat.le_refl _))
    have hgeb : ge < gb := by omega
    have hgbW : gb < W5.heap.size := by rw [hW5, hgb]; simp
    have hwge : w.heap.size + 2 ≤ ge := by omega
    have p0 := k0
    have p1 := k1
    have hwl : w.heap.size < w2.heap.size := by omega
    replace k0 := ((bcell b).1 _ _ (by omega)).trans k0
    replace k1 := ((bcell b).1 _ _ (by omega)).trans k1
    replace HX := Bx.mk (HX.out.below b (by omega))
    replace R0 := R0.below b (by omega)
    replace bw := bw.trans (b.mono (by omega))
    clear b HIE0
    go_wp2_with fail
    rw [← hW5, ← hgb, ← hge]
    clear hW5 p0 p1 hwl
    have HGEx := Bx.mk hge
    have HGBx := Bx.mk hgb
    clear hge hgb hz
    go_loopw [25] (fun v wr => ∃ (k : Nat) (Ab : Option Addr) (cb : Nat) (bl : List Int), k ≤ n ∧ v = .int .i64 k ∧ Bx (bl = neSt n E xs k) ∧ Bx (Blk wr gb 26 #[.int .i64 n, .slice Ab bl.length cb]) ∧ Bx (IO wr (w.heap.size + 2) Ab cb bl) ∧ Bx (∀ x, Ab = some x → x.block ≠ gb) ∧ Bx (Only W5 wr (some ⟨gb, 0, none⟩))) (fun v _ => n - (intOf v).toNat)
    case atStart => exact ⟨0, A2, c2, E, by omega, rfl, ⟨rfl⟩, ⟨HGB⟩, ⟨HIE.out.io⟩, ⟨fun x hx => by have := HIE.out.2 x hx; omega⟩, ⟨Only.refl _ _⟩⟩
    case round =>
      obtain ⟨k, Ab, cb, bl, hk, rfl, HBL, HGBr, HIB, HNE, HON⟩ := hrel
      clear HGB
      have hzr := HON.out.size
      have HGEr := Bx.mk (HGE.onlyAt HON.out (by omega))
      have q0 := (HON.out.cellAt (by omega) (by omega)).trans k0
      have q1 := (HON.out.cellAt (by omega) (by omega)).trans k1
      have HXr := Bx.mk (IR.onlyAt HX.out HON.out (by omega))
      have HIEr := Bx.mk (IR.onlyAt HIE.out.rb HON.out (by omega))
      have R0r := Bx.mk (R0.onlyAt HON.out (by omega))
      have hgbr : gb < wr.heap.size := by omega
      have hbok : rhOk n bl = true := by rw [HBL.out]; exact neSt_ok hn1 hn24 HEOK.out xs k
      have hbl := hbok
      have hbll : bl.length ≤ 24 := (rhOk_len hbok).1
      have g0 := HGBr.out.at_ (i := 0) rfl
      have g1 := HGBr.out.at_ (i := 1) rfl
      obtain ⟨q, hq⟩ : ∃ q, q = cmN bl xs := ⟨_, rfl⟩
      have HCbl : Bx (∀ A1 c1 c2 W, IR W A1 bl → IR W A xs → Calls Try.prog 67 #[.agg #[.int .i64 n, .slice A1 bl.length c1], .agg #[.int .i64 n, .slice A xs.length c2]] W fun e w' => e = .returned (.int .i64 (q : Nat)) ∧ Below W.heap.size W w') := ⟨fun A1 c1 c2 W h1 h2 => by rw [hq]; exact common_any n A1 A c1 c2 bl xs W hbl HOK.out h1 h2⟩
      have hqb : q ≤ 24 := by rw [hq]; exact Nat.le_trans (cmN_le _ _) hbll
      have HQ := Bx.mk hq
      by_cases hlt : k < n
      · have hkl : (k : Int) < (n : Int) := by omega
        obtain ⟨zs, hzs⟩ : ∃ zs, zs = rotL n E (k : Int) := ⟨_, rfl⟩
        have hzok : rhOk n zs = true := by rw [hzs]; exact rotL_ok hn1 hn24 E _
        have hbl := hzok
        have hzl : zs.length ≤ 24 := (rhOk_len hzok).1
        obtain ⟨r, hr⟩ : ∃ r, r = cmN zs xs := ⟨_, rfl⟩
        have HCzs : Bx (∀ A1 c1 c2 W, IR W A1 zs → IR W A xs → Calls Try.prog 67 #[.agg #[.int .i64 n, .slice A1 zs.length c1], .agg #[.int .i64 n, .slice A xs.length c2]] W fun e w' => e = .returned (.int .i64 (r : Nat)) ∧ Below W.heap.size W w') := ⟨fun A1 c1 c2 W h1 h2 => by rw [hr]; exact common_any n A1 A c1 c2 zs xs W hbl HOK.out h1 h2⟩
        have hrb : r ≤ 24 := by rw [hr]; exact Nat.le_trans (cmN_le _ _) hzl
        have HRO : Bx (∀ A' cc W, IR W A' E → Calls Try.prog 66 #[.agg #[.int .i64 n, .slice A' E.length cc], .int .i64 k] W (GivesRh W n zs)) := ⟨fun A' cc W h => by rw [hzs]; exact rotated_any n A' cc E k W hs12 HEB.out (by omega) (by omega) h⟩
        obtain ⟨bR, hbR⟩ : ∃ bR, bR = decide ((r : Int) > (q : Int)) := ⟨_, rfl⟩
        have HNX : Bx (neSt n E xs (k + 1) = if bR = true then zs else bl) := ⟨by
          show (if cmN (neSt n E xs k) xs < cmN (rotL n E (k : Int)) xs then rotL n E (k : Int) else neSt n E xs k) = _
          rw [← HBL.out, ← hzs, ← hr, ← hq, hbR]
          by_cases h : q < r
          · rw [if_pos h, if_pos (by simp; omega)]
          · rw [if_neg h, if_neg (by simp; omega)]⟩
        have HBR := Bx.mk hbR
        have e0 := HGEr.out.at_ (i := 0) rfl
        have e1 := HGEr.out.at_ (i := 1) rfl
        clear hbR hr hzs hq hbok hbl hzok HBL
        go_wp2_with fail
        refine (HRO.out _ _ _ HIEr.out).mono ?_
        rintro e w6 ⟨A6, c6, rfl, io6, b6⟩
        have hw6 := b6.size
        obtain ⟨W7, hW7⟩ : ∃ W7, W7 = w6.alloc (.cells #[.int .i64 n, .slice A6 zs.length c6] 26) := ⟨_, rfl⟩
        obtain ⟨gn, hgn⟩ : ∃ gn, gn = w6.heap.size := ⟨_, rfl⟩
        have b7 : Below w6.heap.size w6 W7 := by rw [hW7]; exact below_alloc _ _
        have HN7 : Blk W7 gn 26 #[.int .i64 n, .slice A6 zs.length c6] := by rw [hW7, hgn]; exact Blk.new w6 _ _
        have hgn7 : gn < W7.heap.size := by rw [hW7, hgn]; simp
        have b67 : Below wr.heap.size wr W7 := b6.trans (b7.mono hw6)
        have hw7 := b67.size
        have HI7 := Bx.mk (io6.below b7 (Nat.le_refl _))
        have n0 := HN7.at_ (i := 0) rfl
        have n1 := HN7.at_ (i := 1) rfl
        have m0 := ((bcell b67).1 _ _ hgbr).trans g0
        have m1 := ((bcell b67).1 _ _ hgbr).trans g1
        have s0 := ((bcell b67).1 _ _ (by omega)).trans q0
        have s1 := ((bcell b67).1 _ _ (by omega)).trans q1
        have HX7 := Bx.mk (HXr.out.below b67)
        have HB7 := Bx.mk (HIB.out.reads.below b67)
        go_upto_region 9 with (fail)
        rw [← hW7, ← hgn]
        clear hW7 io6 b6 b7
        have HGN := Bx.mk hgn
        clear hgn hw6
        go_cut [37] (fun sv wx => sv = .bool bR ∧ Bx (Below W7.heap.size W7 wx))
        case first =>
          have hB0 : Bx (Below W7.heap.size W7 W7) := ⟨Below.refl _ _⟩
          have hBd := bx_drew hB0
          have hgb7 : gb < W7.heap.size := by omega
          have hwh7 : w.heap.size < W7.heap.size := by omega
          go_region_held3 (fun w' => w'.cell? ⟨gn, 0, none⟩ = some (.int .i64 n) ∧ w'.cell? ⟨gn, 1, none⟩ = some (.slice A6 zs.length c6) ∧ w'.cell? ⟨w.heap.size, 0, none⟩ = some (.int .i64 n) ∧ w'.cell? ⟨w.heap.size, 1, none⟩ = some (.slice A xs.length c) ∧ w'.cell? ⟨gb, 0, none⟩ = some (.int .i64 n) ∧ w'.cell? ⟨gb, 1, none⟩ = some (.slice Ab bl.length cb) ∧ Bx (Below W7.heap.size W7 w'))
            ((refine (fun (hK : Bx (Below W7.heap.size W7 _)) => ⟨((bcell hK.out).1 _ _ hgn7).trans n0, ((bcell hK.out).1 _ _ hgn7).trans n1, ((bcell hK.out).1 _ _ hwh7).trans s0, ((bcell hK.out).1 _ _ hwh7).trans s1, ((bcell hK.out).1 _ _ hgb7).trans m0, ((bcell hK.out).1 _ _ hgb7).trans m1, hK⟩) ?_; first | assumption | exact bx_drew (by assumption)))
            (first
              | (go_at_call_of 67 (Value.agg #[Value.int IntKind.i64 (n : Int), Value.slice A6 zs.length c6]); refine (HCzs.out _ _ _ _ (HI7.out.reads.below (Bx.out (by assumption))) (HX7.out.below (Bx.out (by assumption)))).mono ?_; rintro e w8 ⟨rfl, b8⟩; have hBw8 : Bx (Below W7.heap.size W7 w8) := bx_to (by assumption) b8; clear b8; try clear hB0 hBd)
              | (go_at_call_of 67 (Value.agg #[Value.int IntKind.i64 (n : Int), Value.slice Ab bl.length cb]); refine (HCbl.out _ _ _ _ (HB7.out.below (Bx.out (by assumption))) (HX7.out.below (Bx.out (by assumption)))).mono ?_; rintro e w8 ⟨rfl, b8⟩; have hBw8 : Bx (Below W7.heap.size W7 w8) := bx_to (by assumption) b8; clear b8; try clear hB0 hBd))
          all_goals (go_wp2_with fail; go_meet)
          all_goals exact ⟨by rw [HBR.out]; first | rfl | (congr 1; rw [Bool.eq_iff_iff]; simp), by assumption⟩
        case rest =>
          obtain ⟨rfl, HBX⟩ := hcut
          have hwx := HBX.out.size
          have b7x := b67.trans (HBX.out.mono hw7)
          have HONx := HON.out.after (b7x.mono hzr)
          have HGX := HGBr.out.below b7x hgbr
          cases bR with
          | true =>
            have HN : Bx (zs = neSt n E xs (k + 1)) := ⟨by rw [HNX.out]; rfl⟩
            have x0 := ((bcell HBX.out).1 _ _ hgn7).trans n0
            have x1 := ((bcell HBX.out).1 _ _ hgn7).trans n1
            have y0 := HGX.at_ (i := 0) rfl
            have y1 := HGX.at_ (i := 1) rfl
            have f0 := HGX.frozen 0
            have f1 := HGX.frozen 1
            have HG9 := Bx.mk ((HGX.set 0 (.int .i64 n)).set 1 (.slice A6 zs.length c6))
            have HI9 := Bx.mk ((((HI7.out.below HBX.out (Nat.le_refl _)).setLow (p := ⟨gb, 0, none⟩) hgbr (.int .i64 n)).setLow (p := ⟨gb, 1, none⟩) hgbr (.slice A6 zs.length c6)).mono (show w.heap.size + 2 ≤ wr.heap.size by omega))
            have HO9 := Bx.mk ((HONx.set (i := 0) (.int .i64 n)).set (i := 1) (.slice A6 zs.length c6))
            have HNE9 : Bx (∀ x, A6 = some x → x.block ≠ gb) := ⟨fun x hx => by have := HI7.out.ge x hx; omega⟩
            clear HGX HONx b7x
            go_wp2_with fail
            go_roundw
            case rel => exact ⟨k + 1, A6, c6, zs, by omega, by go_num, HN, HG9, HI9, HNE9, HO9⟩
            case measure => simp [intOf]; omega
          | false =>
            have HN : Bx (bl = neSt n E xs (k + 1)) := ⟨by rw [HNX.out]; rfl⟩
            have HG9 := Bx.mk HGX
            have HI9 := Bx.mk (HIB.out.below b7x (Nat.le_refl _))
            have HO9 := Bx.mk HONx
            clear HGX HONx b7x
            go_wp2_with fail
            go_roundw
            case rel => exact ⟨k + 1, Ab, cb, bl, by omega, by go_num, HN, HG9, HI9, HNE, HO9⟩
            case measure => simp [intOf]; omega
      · have hke : k = n := by omega
        have HBN : Bx (bl = neSt n (evL n xs.length xs.length) xs n) := ⟨by rw [HBL.out, hke, HEE.out]⟩
        have hkl : ¬ (k : Int) < (n : Int) := by omega
        have bwr : Below w.heap.size w wr := bw.trans (HON.out.below (by omega) (by intro x hx; injection hx with hx; subst hx; simp; omega))
        clear hke HBL hq
        go_upto_region 12 with (fail)
        have hB0 : Bx (Below (w.heap.size + 1) wr wr) := ⟨Below.refl _ _⟩
        have hBd : Bx (Below (w.heap.size + 1) wr wr.drew) := ⟨(Below.refl _ _).drew⟩
        have hK0 := HGBr
        have hK1 : Bx (Blk wr.drew gb 26 #[.int .i64 n, .slice Ab bl.length cb]) := ⟨HGBr.out⟩
        have hBf0 : Bx (Below wr.heap.size wr wr) := ⟨Below.refl _ _⟩
        have hBf1 : Bx (Below wr.heap.size wr wr.drew) := ⟨(Below.refl _ _).drew⟩
        have hwr1 : w.heap.size + 1 < wr.heap.size := by omega
        have hgb1 : ¬ gb = w.heap.size + 1 := by omega
        go_region_held3 (fun w' => w'.cell? ⟨w.heap.size, 0, none⟩ = some (.int .i64 n) ∧ w'.cell? ⟨w.heap.size, 1, none⟩ = some (.slice A xs.length c) ∧ w'.cell? ⟨gb, 0, none⟩ = some (.int .i64 n) ∧ w'.cell? ⟨gb, 1, none⟩ = some (.slice Ab bl.length cb) ∧ Bx (Below (w.heap.size + 1) wr w'))
          ((refine (fun (hK : Bx (Below (w.heap.size + 1) wr _) ∧ Bx (Blk _ gb 26 #[.int .i64 n, .slice Ab bl.length cb])) => ⟨((bcell hK.1.out).1 _ _ (by omega)).trans q0, ((bcell hK.1.out).1 _ _ (by omega)).trans q1, hK.2.out.at_ (i := 0) rfl, hK.2.out.at_ (i := 1) rfl, hK.1⟩) ?_; refine ⟨?_, ?_⟩ <;> first | assumption | exact ⟨Below.setCell (p := ⟨w.heap.size + 1, 1, none⟩) (Below.setCell (p := ⟨w.heap.size + 1, 0, none⟩) (Bx.out (by assumption)) (Nat.le_refl _) _) (Nat.le_refl _) _⟩ | exact ⟨(Below.heap_setCell _ _ _ gb (by simp; omega)).trans ((Below.heap_setCell _ _ _ gb (by simp; omega)).trans (Bx.out (by assumption)))⟩))
          (first
            | (go_at_call 67; refine (HCbl.out _ _ _ _ (HIB.out.reads.below (Bx.out (by assumption))) (HXr.out.below (Bx.out (by assumption)))).mono ?_; rintro e w8 ⟨rfl, b8⟩; have hBf8 : Bx (Below wr.heap.size wr w8) := bx_to (by assumption) b8; have hBw8 : Bx (Below (w.heap.size + 1) wr w8) := ⟨hBf8.out.mono (by omega)⟩; have hK8 : Bx (Blk w8 gb 26 #[.int .i64 n, .slice Ab bl.length cb]) := ⟨HGBr.out.below hBf8.out hgbr⟩; have R8 := R0r.out.below hBf8.out hwr1; have cr0 := R8.at_ (i := 0) rfl; have cr1 := R8.at_ (i := 1) rfl; have fr0 := R8.frozen 0; have fr1 := R8.frozen 1; have HR8 := Bx.mk R8; clear R8 b8; clear hB0 hBd hK0 hK1 hBf0 hBf1))
        have RF := Bx.mk ((HR8.out.set 0 (.int .i64 n)).set 1 (.slice Ab bl.length cb))
        have BF := Bx.mk (((bwr.trans (hBf8.out.mono (by omega))).setCell (p := ⟨w.heap.size + 1, 0, none⟩) (show w.heap.size ≤ w.heap.size + 1 by omega) (.int .i64 n)).setCell (p := ⟨w.heap.size + 1, 1, none⟩) (show w.heap.size ≤ w.heap.size + 1 by omega) (.slice Ab bl.length cb))
        have HIO := Bx.mk ((((HIB.out.below hBf8.out (Nat.le_refl _)).setLow (p := ⟨w.heap.size + 1, 0, none⟩) (show w.heap.size + 1 < w.heap.size + 2 by omega) (.int .i64 n)).setLow (p := ⟨w.heap.size + 1, 1, none⟩) (show w.heap.size + 1 < w.heap.size + 2 by omega) (.slice Ab bl.length cb)).mono (show w.heap.size ≤ w.heap.size + 2 by omega))
        go_wp2_with fail
        exact bodyPost_ret (v := .tuple #[.agg #[.int .i64 n, .slice Ab bl.length cb], .int .i64 (q : Int)]) (by simp [results, Try.results41, go_sem, RF.out.at_ (i := 0) rfl, RF.out.at_ (i := 1) rfl]) rfl (GivesRI.yes HOK.out HBN.out HQ.out HIO.out BF.out)
end Go.Proofs.Ytihbgpcmphemmaa
