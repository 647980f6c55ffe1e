/- The law FnTop, walked. -/
import Derived.Test.YtikifkbgmniobaaGreatRegM
import Derived.Test.YtikifkbgmniobaaGreatFmPl
import Derived.Test.YtikifkbgmniobaaGreatTopPl
import Derived.Test.YtikifkbgmniobaaGreatDrTile
import Derived.Test.YtikifkbgmniobaaGreatStd
import Derived.Test.YtikifkbgmniobaaGreatPtT
import Derived.Test.YtikifkbgmniobaaGreatPerT
import Derived.Test.YtikifkbgmniobaaGreatStrU
import Derived.Test.YtikifkbgmniobaaGreatLawH
import Derived.Test.YtikifkbgmniobaaGreatDiff
import Derived.Test.YtikifkbgmniobaaGreatLawB
import Derived.Test.YtikifkbgmniobaaGreatBas
import Derived.Test.YtikifkbgmniobaaGreatFinWords
import Derived.Deep.RegionHeld3
import Derived.Deep.DeepCutAuto
namespace Go.Proofs.YtikifkbgmniobaaGreat
open Go.RowKit
set_option maxRecDepth 20000

set_option linter.unusedSimpArgs false
theorem btw_tiles {n : Nat} {xs ys : List Int} (hx : rhOk n xs = true) (hy : rhOk n ys = true) : btw n xs n ys 1 1 = tilesB n xs ys := by
  rw [btw_all hx hy, tiles_btw hx]
theorem cnt_pts {n : Nat} (h12 : n ≤ 12) {xs : List Int} (hx : rhOk n xs = true) : cntPt n xs = ((ptsL n xs).length : Int) := by
  rw [cntPt_in hx h12, ptsL_in hx h12, ptL_len]
theorem fp_some {n : Int} {xs y : List Int} {l : List (List Int)} (h : fpO n xs = (y :: l).head?) : fS n (fpO n xs) = n ∧ fL (fpO n xs) = y ∧ (fpO n xs).isSome = true := by
  rw [h]; exact ⟨rfl, rfl, rfl⟩
theorem fp_none {n : Int} {xs : List Int} (h : fpO n xs = ([] : List (List Int)).head?) : fS n (fpO n xs) = 0 ∧ fL (fpO n xs) = [] ∧ (fpO n xs).isSome = false := by
  rw [h]; exact ⟨rfl, rfl, rfl⟩
def RdZ (w : World) (A : Option Addr) (n : Int) (L : List (List Int)) : Prop := ∀ (k : Nat) (xs : List Int), L[k]? = some xs → ∃ g B cB, A = some ⟨g, 0, none⟩ ∧ g < w.heap.size ∧ w.cell? ⟨g, k * 2, none⟩ = some (.int .i64 n) ∧ w.cell? ⟨g, k * 2 + 1, none⟩ = some (.slice B xs.length cB) ∧ IR w B xs
theorem RdZ.below {w w' : World} {A : Option Addr} {n : Int} {L : List (List Int)} (h : RdZ w A n L) (b : Below w.heap.size w w') : RdZ w' A n L := fun k xs hk => by
  obtain ⟨g, B, cB, e, h1, h2, h3, h4⟩ := h k xs hk
  exact ⟨g, B, cB, e, Nat.lt_of_lt_of_le h1 b.size, ((bcell b).1 _ _ h1).trans h2, ((bcell b).1 _ _ h1).trans h3, h4.below b⟩
theorem rdz_of {w : World} {base : Nat} {V : Value} {n : Int} {gs : List Nat} {ws : List Value} {L : List (List Int)} (h : RowsR w base V (L.map fun _ => n) ws gs L) : ∃ A c, V = .slice A L.length c ∧ RdZ w A n L := by
  obtain ⟨A, c, rfl⟩ := h.slice
  refine ⟨A, c, rfl, fun k xs hk => ?_⟩
  obtain ⟨g0, gk, ck, s, ys, h1, h2, h3, h4, h5, h6, h7, _⟩ := h.cell (List.getElem?_eq_some_iff.1 hk).1
  have e1 := h6.out.2.1
  rw [hk] at e1
  injection e1 with e1
  subst e1
  have e2 := h6.out.1
  rw [List.getElem?_map, hk] at e2
  injection e2 with e2
  subst e2
  exact ⟨g0, _, ck, h1, h2, h3, h4, h5.reads⟩
theorem br_only {w w' : World} {A : Option Addr} {n g : Nat} (h : BR w A n) (ho : Only w w' (some ⟨g, 0, none⟩)) (hne : 0 < n → ∀ x, A = some x → x.block ≠ g) : BR w' A n := by
  by_cases h0 : 0 < n
  · exact h.only ho (hne h0)
  · exact ⟨h.1, fun h => absurd h h0⟩
set_option maxHeartbeats 16000000 in
set_option maxRecDepth 100000 in
theorem walkFnTop (w : World) (A0 : Option Addr) (c0 : Nat) (xs0 : List Int) (ha0 : AR .u8 w A0 xs0) (hf0 : ∀ x ∈ xs0, 0 ≤ x ∧ x ≤ 255) :
    Calls Tryz.prog 3 #[.slice A0 xs0.length c0] w fun e w' => e = .returned (.bool true) ∧ Below w.heap.size w w' := by
  obtain ⟨n0, hn0⟩ : ∃ n0, n0 = xs0.length := ⟨_, rfl⟩
  by_cases hbig : n0 ≤ 1048576
  rotate_left
  · have hgt : (n0 : Int) > 1048576 := by omega
    rw [← hn0]
    clear hn0
    go_enter Tryz.func3, Tryz.ntmps3
    go_wp2_with fail
    go_ret
    exact ⟨rfl, Below.refl _ _⟩
  have HB : Bx (BR w A0 n0) := ⟨br_of hn0 hbig ha0 hf0⟩
  have bw : Below w.heap.size w w := Below.refl _ _
  have hgt : ¬ (n0 : Int) > 1048576 := by omega
  rw [← hn0]
  clear hn0 ha0 hf0
  go_enter Tryz.func3, Tryz.ntmps3
  go_wp2_with fail
  have BRA : Bx (0 < n0 → ∀ x, A0 = some x → x.block < w.heap.size) := ⟨fun h0 => HB.out.lt h0⟩
  refine (makeNum_any _ _ _ 0 _ (by omega) (by exact HB.out)).mono ?_
  rintro e w1 ⟨q1, hq1, rfl, b⟩
  replace HB := Bx.mk (HB.out.below b)
  replace bw := bw.trans (b.mono bw.size)
  clear b
  obtain ⟨m1, hm⟩ : ∃ m : Nat, m = q1 % 12 := ⟨_, rfl⟩
  have hmb : m1 < 12 := by rw [hm]; exact Nat.mod_lt _ (by omega)
  have hme : (q1 : Int) % 12 = (m1 : Int) := by rw [hm]; exact (Int.natCast_emod q1 12).symm
  have hmt : (q1 : Int).tmod 12 = (m1 : Int) := by rw [hm]; exact (Int.ofNat_tmod q1 12).symm
  obtain ⟨n, hn⟩ : ∃ n : Nat, n = 1 + m1 := ⟨_, rfl⟩
  have hni : (1 : Int) + (m1 : Int) = (n : Int) := by omega
  have hn1 : 1 ≤ n := by omega
  have hnm : n < 1 + 12 := by omega
  clear hm hn
  have hn12 : n ≤ 12 := by omega
  clear hnm
  go_wp2_with fail
  clear hme hmt hni hmb
  refine (makeOf_any _ _ _ 2 n _ (by omega) hn1 (by omega) (by exact HB.out)).mono ?_
  rintro e w2 ⟨a, haok, Aa, ca, rfl, io, b⟩
  replace HB := Bx.mk (HB.out.below b)
  replace bw := bw.trans (b.mono bw.size)
  clear b
  have HAOK := Bx.mk haok
  clear haok
  have HA := Bx.mk io.reads
  clear io
  have hw4 : w.heap.size ≤ w2.heap.size := bw.size
  obtain ⟨w3, hW⟩ : ∃ w3, w3 = w2.alloc (.cells #[.int .i64 n, .slice Aa a.length ca] 26) := ⟨_, rfl⟩
  obtain ⟨g4, hg⟩ : ∃ g4, g4 = w2.heap.size := ⟨_, rfl⟩
  have b : Below w2.heap.size w2 w3 := by rw [hW]; exact below_alloc _ _
  have kg40 : w3.cell? ⟨g4, 0, none⟩ = some (.int .i64 n) := by rw [hW, hg]; simp [go_sem]
  have kg41 : w3.cell? ⟨g4, 1, none⟩ = some (.slice Aa a.length ca) := by rw [hW, hg]; simp [go_sem]
  have lt_g4 : g4 < w3.heap.size := by rw [hW, hg]; simp
  replace HA := Bx.mk (HA.out.below b)
  replace HB := Bx.mk (HB.out.below b)
  replace bw := bw.trans (b.mono bw.size)
  clear b
  go_upto_region 5 with (fail)
  have hg4w : w.heap.size ≤ g4 := by omega
  have HG4 : Bx (Blk w3 g4 26 #[.int .i64 n, .slice Aa a.length ca]) := ⟨by rw [hW, hg]; exact Blk.new _ _ _⟩
  rw [← hW, ← hg]
  clear hW hg
  go_cut [29] (fun v wx => ∃ bq : Bool, v = .bool bq ∧ Bx (Below w3.heap.size w3 wx))
  case first =>
    go_wp2_with fail
    refine (makeNum_any _ _ _ 30 _ (by omega) (by exact HB.out)).mono ?_
    rintro e w5 ⟨q2, hq2, rfl, b⟩
    obtain ⟨bq, hbq⟩ : ∃ bq, bq = decide (q2 % 2 = 0) := ⟨_, rfl⟩
    have hqb : ((q2 : Int) % 2 == 0) = bq := by rw [hbq, Bool.eq_iff_iff]; simp; omega
    have hqt : (q2 : Int).tmod 2 = (q2 : Int) % 2 := Int.tmod_eq_emod_of_nonneg (by omega)
    have HZ := Bx.mk b
    clear hbq b
    go_wp2_with fail
    go_meet
    exact ⟨bq, rfl, HZ⟩
  case rest =>
    obtain ⟨bq, rfl, HBW⟩ := hcut
    rename World => wv
    have b := HBW.out
    clear HBW
    replace HG4 := Bx.mk (HG4.out.below b lt_g4)
    replace kg40 := ((bcell b).1 _ _ lt_g4).trans kg40
    replace kg41 := ((bcell b).1 _ _ lt_g4).trans kg41
    replace lt_g4 := Nat.lt_of_lt_of_le lt_g4 b.size
    replace HA := Bx.mk (HA.out.below b)
    replace HB := Bx.mk (HB.out.below b)
    replace bw := bw.trans (b.mono bw.size)
    clear b
    refine (‹∀ (a : Act) (w : World), Code.wp _ _ _ a w → _› _ _ ?_)
    go_cut [3] (fun v wx => ∃ (m : Nat) (r : List Int) (Ar : Option Addr) (cr : Nat), v = .int .i64 m ∧ Bx (1 ≤ m ∧ m ≤ 12 ∧ rhOk m r = true ∧ wx.cell? ⟨g4, 0, none⟩ = some (.int .i64 m) ∧ wx.cell? ⟨g4, 1, none⟩ = some (.slice Ar r.length cr) ∧ IR wx Ar r ∧ Below w.heap.size w wx ∧ wv.heap.size ≤ wx.heap.size ∧ BR wx A0 n0))
    case first =>
      have HCUT : Bx (∀ wx, Below wv.heap.size wv wx → (1 ≤ n ∧ n ≤ 12 ∧ rhOk n a = true ∧ wx.cell? ⟨g4, 0, none⟩ = some (.int .i64 n) ∧ wx.cell? ⟨g4, 1, none⟩ = some (.slice Aa a.length ca) ∧ IR wx Aa a ∧ Below w.heap.size w wx ∧ wv.heap.size ≤ wx.heap.size ∧ BR wx A0 n0)) := ⟨fun wx b => ⟨hn1, hn12, HAOK.out, ((bcell b).1 _ _ lt_g4).trans kg40, ((bcell b).1 _ _ lt_g4).trans kg41, HA.out.below b, bw.trans (b.mono bw.size), b.size, HB.out.below b⟩⟩
      have HGq := HG4
      have HBq := HB
      have HZ := Bx.mk (HCUT.out _ (Below.refl _ _))
      have bwq := bw
      have hlq := lt_g4
      have hzq := Nat.le_refl wv.heap.size
      clear HCUT
      cases bq with
      | true =>
        go_wp2_with fail
        refine (makeTile_any _ _ _ 32 _ (by omega) (by exact HBq.out)).mono ?_
        rintro e w6 ⟨m, r, b', Ar, cr, Ab, cb, hts, HTP, rfl, io, io2, b, hlo, _⟩
        have R6 := HGq.out.below b hlq
        have k60 := R6.at_ (i := 0) rfl
        have k61 := R6.at_ (i := 1) rfl
        have f60 := R6.frozen 0
        have f61 := R6.frozen 1
        have hm1 : 1 ≤ m := by unfold tileSz at hts; omega
        have hm12 : m ≤ 12 := by unfold tileSz at hts; omega
        have HOKr : Bx (rhOk m r = true) := ⟨HTP.out.1⟩
        obtain ⟨W7, hW7⟩ : ∃ W7, W7 = (w6.setCell ⟨g4, 0, none⟩ (.int .i64 (m : Int))).setCell ⟨g4, 1, none⟩ (.slice Ar r.length cr) := ⟨_, rfl⟩
        have hl6 := Nat.lt_of_lt_of_le hlq b.size
        have hz6 : wv.heap.size ≤ w6.heap.size := Nat.le_trans hzq b.size
        have bw6 := bwq.trans (b.mono bwq.size)
        have HBO : Bx (Only w6 W7 (some ⟨g4, 0, none⟩)) := ⟨by rw [hW7]; exact ((Only.refl w6 _).set (i := 0) _).set (i := 1) _⟩
        have R7 : Blk W7 g4 26 #[.int .i64 (m : Int), .slice Ar r.length cr] := by rw [hW7]; exact (R6.set 0 (.int .i64 (m : Int))).set 1 (.slice Ar r.length cr)
        have m0 : W7.cell? ⟨g4, 0, none⟩ = some (.int .i64 (m : Int)) := R7.at_ (i := 0) rfl
        have m1 : W7.cell? ⟨g4, 1, none⟩ = some (.slice Ar r.length cr) := R7.at_ (i := 1) rfl
        have HZ7 : Bx (1 ≤ m ∧ m ≤ 12 ∧ rhOk m r = true ∧ W7.cell? ⟨g4, 0, none⟩ = some (.int .i64 m) ∧ W7.cell? ⟨g4, 1, none⟩ = some (.slice Ar r.length cr) ∧ IR W7 Ar r ∧ Below w.heap.size w W7 ∧ wv.heap.size ≤ W7.heap.size ∧ BR W7 A0 n0) := ⟨hm1, hm12, HOKr.out, m0, m1,
          io.only HBO.out (fun x y hx hy => by injection hy with hy; subst hy; have := hlo x hx; show x.block ≠ g4; omega), bw6.trans (HBO.out.below (by omega) (fun x hx => by injection hx with hx; subst hx; exact hg4w)), Nat.le_trans hz6 HBO.out.size, br_only (HBq.out.below b) HBO.out (fun h0 x hx => by have := BRA.out h0 x hx; omega)⟩
        clear io io2 b hts hlo R6 R7
        go_wp2_with fail
        rw [← hW7]
        clear hW7
        go_meet
        exact ⟨m, r, Ar, cr, rfl, HZ7⟩
      | false =>
        go_wp2_with fail
        go_meet
        exact ⟨n, a, Aa, ca, rfl, HZ⟩
    case rest =>
      obtain ⟨m, r, Ar, cr, rfl, HCT⟩ := hcut
      rename World => wz
      clear HAOK HA hn1 hn12 kg40 kg41 HG4 bw HB hw4
      obtain ⟨hn1, hn12, hrok, kg40, kg41, hir, bw, hzw, hbr⟩ := HCT.out
      have HROK := Bx.mk hrok
      have HR := Bx.mk hir
      have HB := Bx.mk hbr
      replace lt_g4 := Nat.lt_of_lt_of_le lt_g4 hzw
      clear HCT hrok hir hzw hbr
      obtain ⟨L, hL⟩ : ∃ L, L = ptsL (m : Int) r := ⟨_, rfl⟩
      have hm64 : Bx (-9223372036854775808 ≤ (m : Int) ∧ (m : Int) ≤ 9223372036854775807) := ⟨by omega⟩
      obtain ⟨S, hS⟩ : ∃ S, S = stTo m (ppI m r) m := ⟨_, rfl⟩
      have HSOK : Bx (rhOk m S = true) := ⟨by rw [hS]; exact stTo_ok (by omega) _ _⟩
      have hrl := (rhOk_len HROK.out).1
      have HSTB : Bx (mbI m r = true → tilesB m r S = true) := ⟨fun h => by
        unfold mbI at h
        rw [Bool.and_eq_true] at h
        rw [hS]
        exact (std_tile hn12 HROK.out h.1 h.2).1⟩
      have HTBI : Bx (∀ ys, rhOk m ys = true → tilesB m r ys = true → mbI m r = true) := ⟨fun ys h1 h2 => by
        have := (tile_iff hn12 HROK.out h1 (tiles_len h2)).2 h2
        unfold mbI
        rw [this.mf, this.ms]; rfl⟩
      have HBTH : Bx (mbI m r = true ↔ L ≠ []) := ⟨by rw [hL]; exact both_pts hn12 HROK.out⟩
      have HLEN : Bx (cntPt m r = (L.length : Int)) := ⟨by rw [hL]; exact cnt_pts hn12 HROK.out⟩
      have HFPE : Bx (fpO m r = L.head?) := ⟨by rw [hL]; exact fp_head hn12 HROK.out⟩
      have HSD : Bx (∀ A c W, IR W A r → Calls Tryz.prog 8 #[.agg #[.int .i64 m, .slice A r.length c]] W (GivesRB W m S true)) := ⟨fun A c W h => by
        have := implStd_any m A c r W hm64.out h
        unfold stdS stdL at this
        rw [HROK.out, if_pos rfl, if_pos rfl, Int.toNat_natCast, ← hS] at this
        exact this⟩
      have HPT : Bx (∀ A c W, IR W A r → Calls Tryz.prog 10 #[.agg #[.int .i64 m, .slice A r.length c]] W (GivesRs W m L)) := ⟨fun A c W h => by rw [hL]; exact implPts_any m A c r W hm64.out h⟩
      have HCP : Bx (∀ A c W, IR W A r → Calls Tryz.prog 13 #[.agg #[.int .i64 m, .slice A r.length c]] W fun e w' => e = .returned (.int .i64 (L.length : Int)) ∧ Below W.heap.size W w') := ⟨fun A c W h => by rw [← HLEN.out]; exact implCntPt_any m A c r W hm64.out h⟩
      have HFP := Bx.mk (fun A c W h => implFp_any m A c r W hm64.out h)
      have HMB := Bx.mk (fun A c W h => implMb_any m A c r W hm64.out h)
      have HMF := Bx.mk (fun A c W h => implMf_any m A c r W hm64.out h)
      have HMS := Bx.mk (fun A c W h => implMs_any m A c r W hm64.out h)
      have HTS : Bx (∀ A B c d W, IR W A r → IR W B S → Calls Tryz.prog 14 #[.agg #[.int .i64 m, .slice A r.length c], .agg #[.int .i64 m, .slice B S.length d]] W fun e w' => e = .returned (.bool (tilesB m r S)) ∧ Below W.heap.size W w') := ⟨fun A B c d W h1 h2 => by
        have := implIsTiling_any m m A B c d r S W hm64.out hm64.out h1 h2
        rw [btw_tiles HROK.out HSOK.out] at this
        exact this⟩
      have HLm : Bx (∀ ys ∈ L, rhOk m ys = true ∧ hasR m ys 0 = true ∧ tilesB m r ys = true) := ⟨fun ys h => (ptsL_iff hn12 HROK.out).1 (by rw [← hL]; exact h)⟩
      have HORD : Bx (∀ (k : Nat) x y, L[k]? = some x → L[k + 1]? = some y → (Op.bytesLess (fmT m x).toList (fmT m y).toList || (fmT m x).toList == (fmT m y).toList) = false) := ⟨fun k x y h1 h2 => by rw [hL] at h1 h2; exact pts_order hn12 HROK.out h1 h2⟩
      have hLl : L.length ≤ 4096 := by rw [hL]; exact ptsL_len _ _
      clear hL hS HLEN
      cases L with
      | nil =>
        have HBE : Bx (mbI m r = false) := ⟨Bool.eq_false_iff.2 fun h => absurd rfl (HBTH.out.1 h)⟩
        have HTSE : Bx (tilesB m r S = false) := ⟨Bool.eq_false_iff.2 fun h => by have := HTBI.out S HSOK.out h; rw [HBE.out] at this; cases this⟩
        have HTSl : Bx (∀ A B c d W, IR W A r → IR W B S → Calls Tryz.prog 14 #[.agg #[.int .i64 m, .slice A r.length c], .agg #[.int .i64 m, .slice B S.length d]] W fun e w' => e = .returned (.bool false) ∧ Below W.heap.size W w') := ⟨fun A B c d W h1 h2 => by rw [← HTSE.out]; exact HTS.out A B c d W h1 h2⟩
        have HFPl : Bx (∀ A c W, IR W A r → Calls Tryz.prog 7 #[.agg #[.int .i64 m, .slice A r.length c]] W fun e w' => ∃ A2 c2, e = .returned (.tuple #[.agg #[.int .i64 0, .slice A2 0 c2], .bool false]) ∧ Below W.heap.size W w') := ⟨fun A c W h => (HFP.out A c W h).mono fun e w' h => by
          obtain ⟨e0, e1, e2⟩ := fp_none HFPE.out
          rw [e0, e1, e2] at h
          obtain ⟨A2, c2, e1, _, e3⟩ := h
          exact ⟨A2, c2, e1, e3⟩⟩
        have HMBl : Bx (∀ A c W, IR W A r → Calls Tryz.prog 9 #[.agg #[.int .i64 m, .slice A r.length c]] W fun e w' => e = .returned (.bool false) ∧ Below W.heap.size W w') := ⟨fun A c W h => by rw [← HBE.out]; exact HMB.out A c W h⟩
        have HMMF : Bx ((mfI m r && msI m r) = false) := ⟨HBE.out⟩
        clear HFP HMB HTS HBTH HTBI HSTB HTSE HFPE HORD HLm
        go_upto_region 8 with (fail)
        go_wp2_with fail
        refine (HFPl.out _ _ _ (by exact HR.out)).mono ?_
        rintro e w4 ⟨A5, c5, rfl, b⟩
        replace kg40 := ((bcell b).1 _ _ lt_g4).trans kg40
        replace kg41 := ((bcell b).1 _ _ lt_g4).trans kg41
        replace lt_g4 := Nat.lt_of_lt_of_le lt_g4 b.size
        replace HR := Bx.mk (HR.out.below b)
        replace HB := Bx.mk (HB.out.below b)
        replace bw := bw.trans (b.mono bw.size)
        clear b
        obtain ⟨w5, hW⟩ : ∃ w5, w5 = w4.alloc (.cells #[.int .i64 0, .slice A5 0 c5] 26) := ⟨_, rfl⟩
        obtain ⟨g5, hg⟩ : ∃ g5, g5 = w4.heap.size := ⟨_, rfl⟩
        have b : Below w4.heap.size w4 w5 := by rw [hW]; exact below_alloc _ _
        have kg50 : w5.cell? ⟨g5, 0, none⟩ = some (.int .i64 0) := by rw [hW, hg]; simp [go_sem]
        have kg51 : w5.cell? ⟨g5, 1, none⟩ = some (.slice A5 0 c5) := by rw [hW, hg]; simp [go_sem]
        have lt_g5 : g5 < w5.heap.size := by rw [hW, hg]; simp
        replace kg40 := ((bcell b).1 _ _ lt_g4).trans kg40
        replace kg41 := ((bcell b).1 _ _ lt_g4).trans kg41
        replace lt_g4 := Nat.lt_of_lt_of_le lt_g4 b.size
        replace HR := Bx.mk (HR.out.below b)
        replace HB := Bx.mk (HB.out.below b)
        replace bw := bw.trans (b.mono bw.size)
        clear b
        go_upto_region 9 with (fail)
        rw [← hW, ← hg]
        clear hW hg
        go_wp2_with fail
        refine (HSD.out _ _ _ (by exact HR.out)).mono ?_
        rintro e w6 ⟨A7, c7, rfl, io, b⟩
        replace kg40 := ((bcell b).1 _ _ lt_g4).trans kg40
        replace kg41 := ((bcell b).1 _ _ lt_g4).trans kg41
        replace kg50 := ((bcell b).1 _ _ lt_g5).trans kg50
        replace kg51 := ((bcell b).1 _ _ lt_g5).trans kg51
        replace lt_g4 := Nat.lt_of_lt_of_le lt_g4 b.size
        replace lt_g5 := Nat.lt_of_lt_of_le lt_g5 b.size
        replace HR := Bx.mk (HR.out.below b)
        replace HB := Bx.mk (HB.out.below b)
        replace bw := bw.trans (b.mono bw.size)
        clear b
        have HSr := Bx.mk io.reads
        clear io
        obtain ⟨w7, hW⟩ : ∃ w7, w7 = w6.alloc (.cells #[.int .i64 m, .slice A7 S.length c7] 26) := ⟨_, rfl⟩
        obtain ⟨g7, hg⟩ : ∃ g7, g7 = w6.heap.size := ⟨_, rfl⟩
        have b : Below w6.heap.size w6 w7 := by rw [hW]; exact below_alloc _ _
        have kg70 : w7.cell? ⟨g7, 0, none⟩ = some (.int .i64 m) := by rw [hW, hg]; simp [go_sem]
        have kg71 : w7.cell? ⟨g7, 1, none⟩ = some (.slice A7 S.length c7) := by rw [hW, hg]; simp [go_sem]
        have lt_g7 : g7 < w7.heap.size := by rw [hW, hg]; simp
        replace kg40 := ((bcell b).1 _ _ lt_g4).trans kg40
        replace kg41 := ((bcell b).1 _ _ lt_g4).trans kg41
        replace kg50 := ((bcell b).1 _ _ lt_g5).trans kg50
        replace kg51 := ((bcell b).1 _ _ lt_g5).trans kg51
        replace lt_g4 := Nat.lt_of_lt_of_le lt_g4 b.size
        replace lt_g5 := Nat.lt_of_lt_of_le lt_g5 b.size
        replace HR := Bx.mk (HR.out.below b)
        replace HSr := Bx.mk (HSr.out.below b)
        replace HB := Bx.mk (HB.out.below b)
        replace bw := bw.trans (b.mono bw.size)
        clear b
        go_upto_region 10 with (fail)
        rw [← hW, ← hg]
        clear hW hg
        go_wp2_with fail
        refine (HMBl.out _ _ _ (by exact HR.out)).mono ?_
        rintro e w8 ⟨rfl, b⟩
        replace kg40 := ((bcell b).1 _ _ lt_g4).trans kg40
        replace kg41 := ((bcell b).1 _ _ lt_g4).trans kg41
        replace kg50 := ((bcell b).1 _ _ lt_g5).trans kg50
        replace kg51 := ((bcell b).1 _ _ lt_g5).trans kg51
        replace kg70 := ((bcell b).1 _ _ lt_g7).trans kg70
        replace kg71 := ((bcell b).1 _ _ lt_g7).trans kg71
        replace lt_g4 := Nat.lt_of_lt_of_le lt_g4 b.size
        replace lt_g5 := Nat.lt_of_lt_of_le lt_g5 b.size
        replace lt_g7 := Nat.lt_of_lt_of_le lt_g7 b.size
        replace HR := Bx.mk (HR.out.below b)
        replace HSr := Bx.mk (HSr.out.below b)
        replace HB := Bx.mk (HB.out.below b)
        replace bw := bw.trans (b.mono bw.size)
        clear b
        go_wp2_with fail
        refine (HPT.out _ _ _ (by exact HR.out)).mono ?_
        rintro e w9 ⟨V, ws, gs, rfl, hrows, b⟩
        replace kg40 := ((bcell b).1 _ _ lt_g4).trans kg40
        replace kg41 := ((bcell b).1 _ _ lt_g4).trans kg41
        replace kg50 := ((bcell b).1 _ _ lt_g5).trans kg50
        replace kg51 := ((bcell b).1 _ _ lt_g5).trans kg51
        replace kg70 := ((bcell b).1 _ _ lt_g7).trans kg70
        replace kg71 := ((bcell b).1 _ _ lt_g7).trans kg71
        replace lt_g4 := Nat.lt_of_lt_of_le lt_g4 b.size
        replace lt_g5 := Nat.lt_of_lt_of_le lt_g5 b.size
        replace lt_g7 := Nat.lt_of_lt_of_le lt_g7 b.size
        replace HR := Bx.mk (HR.out.below b)
        replace HSr := Bx.mk (HSr.out.below b)
        replace HB := Bx.mk (HB.out.below b)
        replace bw := bw.trans (b.mono bw.size)
        clear b
        obtain ⟨AL, cL, rfl, hrz⟩ := rdz_of hrows
        clear hrows hrz
        go_upto_region 12 with (fail)
        go_cut [90] (fun v wx => v = .bool false ∧ Bx (Below w9.heap.size w9 wx))
        case first =>
          have HW0 : Bx (Below w9.heap.size w9 w9) := ⟨Below.refl _ _⟩
          go_wp2_with fail
          have HMMF2 := HMMF.out
          clear HMMF
          refine (HMF.out _ _ _ (by exact HR.out)).mono ?_
          rintro e w10 ⟨rfl, b⟩
          replace HW0 := Bx.mk (HW0.out.trans (b.mono HW0.out.size))
          replace kg40 := ((bcell b).1 _ _ lt_g4).trans kg40
          replace kg41 := ((bcell b).1 _ _ lt_g4).trans kg41
          replace kg50 := ((bcell b).1 _ _ lt_g5).trans kg50
          replace kg51 := ((bcell b).1 _ _ lt_g5).trans kg51
          replace kg70 := ((bcell b).1 _ _ lt_g7).trans kg70
          replace kg71 := ((bcell b).1 _ _ lt_g7).trans kg71
          replace lt_g4 := Nat.lt_of_lt_of_le lt_g4 b.size
          replace lt_g5 := Nat.lt_of_lt_of_le lt_g5 b.size
          replace lt_g7 := Nat.lt_of_lt_of_le lt_g7 b.size
          replace HR := Bx.mk (HR.out.below b)
          replace HSr := Bx.mk (HSr.out.below b)
          replace HB := Bx.mk (HB.out.below b)
          replace bw := bw.trans (b.mono bw.size)
          clear b
          cases hmf : mfI m r with
          | true =>
            have hms : msI m r = false := by rw [hmf] at HMMF2; simpa using HMMF2
            have HMSl : Bx (∀ A c W, IR W A r → Calls Tryz.prog 12 #[.agg #[.int .i64 m, .slice A r.length c]] W fun e w' => e = .returned (.bool false) ∧ Below W.heap.size W w') := ⟨fun A c W h => by rw [← hms]; exact HMS.out A c W h⟩
            clear HMMF2 hms hmf
            go_wp2_with fail
            refine (HMSl.out _ _ _ (by exact HR.out)).mono ?_
            rintro e w11 ⟨rfl, b⟩
            replace HW0 := Bx.mk (HW0.out.trans (b.mono HW0.out.size))
            replace kg40 := ((bcell b).1 _ _ lt_g4).trans kg40
            replace kg41 := ((bcell b).1 _ _ lt_g4).trans kg41
            replace kg50 := ((bcell b).1 _ _ lt_g5).trans kg50
            replace kg51 := ((bcell b).1 _ _ lt_g5).trans kg51
            replace kg70 := ((bcell b).1 _ _ lt_g7).trans kg70
            replace kg71 := ((bcell b).1 _ _ lt_g7).trans kg71
            replace lt_g4 := Nat.lt_of_lt_of_le lt_g4 b.size
            replace lt_g5 := Nat.lt_of_lt_of_le lt_g5 b.size
            replace lt_g7 := Nat.lt_of_lt_of_le lt_g7 b.size
            replace HR := Bx.mk (HR.out.below b)
            replace HSr := Bx.mk (HSr.out.below b)
            replace HB := Bx.mk (HB.out.below b)
            replace bw := bw.trans (b.mono bw.size)
            clear b
            go_wp2_with fail
            refine (HCP.out _ _ _ (by exact HR.out)).mono ?_
            rintro e w12 ⟨rfl, b⟩
            replace HW0 := Bx.mk (HW0.out.trans (b.mono HW0.out.size))
            replace kg40 := ((bcell b).1 _ _ lt_g4).trans kg40
            replace kg41 := ((bcell b).1 _ _ lt_g4).trans kg41
            replace kg50 := ((bcell b).1 _ _ lt_g5).trans kg50
            replace kg51 := ((bcell b).1 _ _ lt_g5).trans kg51
            replace kg70 := ((bcell b).1 _ _ lt_g7).trans kg70
            replace kg71 := ((bcell b).1 _ _ lt_g7).trans kg71
            replace lt_g4 := Nat.lt_of_lt_of_le lt_g4 b.size
            replace lt_g5 := Nat.lt_of_lt_of_le lt_g5 b.size
            replace lt_g7 := Nat.lt_of_lt_of_le lt_g7 b.size
            replace HR := Bx.mk (HR.out.below b)
            replace HSr := Bx.mk (HSr.out.below b)
            replace HB := Bx.mk (HB.out.below b)
            replace bw := bw.trans (b.mono bw.size)
            clear b
            go_wp2_with fail
            go_meet
            exact ⟨rfl, HW0⟩
          | false =>
            clear HMMF2 hmf
            go_wp2_with fail
            refine (HCP.out _ _ _ (by exact HR.out)).mono ?_
            rintro e w13 ⟨rfl, b⟩
            replace HW0 := Bx.mk (HW0.out.trans (b.mono HW0.out.size))
            replace kg40 := ((bcell b).1 _ _ lt_g4).trans kg40
            replace kg41 := ((bcell b).1 _ _ lt_g4).trans kg41
            replace kg50 := ((bcell b).1 _ _ lt_g5).trans kg50
            replace kg51 := ((bcell b).1 _ _ lt_g5).trans kg51
            replace kg70 := ((bcell b).1 _ _ lt_g7).trans kg70
            replace kg71 := ((bcell b).1 _ _ lt_g7).trans kg71
            replace lt_g4 := Nat.lt_of_lt_of_le lt_g4 b.size
            replace lt_g5 := Nat.lt_of_lt_of_le lt_g5 b.size
            replace lt_g7 := Nat.lt_of_lt_of_le lt_g7 b.size
            replace HR := Bx.mk (HR.out.below b)
            replace HSr := Bx.mk (HSr.out.below b)
            replace HB := Bx.mk (HB.out.below b)
            replace bw := bw.trans (b.mono bw.size)
            clear b
            go_wp2_with fail
            go_meet
            exact ⟨rfl, HW0⟩
        case rest =>
          obtain ⟨rfl, HBW⟩ := hcut
          rename World => wy
          have b := HBW.out
          clear HBW HMMF
          replace kg40 := ((bcell b).1 _ _ lt_g4).trans kg40
          replace kg41 := ((bcell b).1 _ _ lt_g4).trans kg41
          replace kg50 := ((bcell b).1 _ _ lt_g5).trans kg50
          replace kg51 := ((bcell b).1 _ _ lt_g5).trans kg51
          replace kg70 := ((bcell b).1 _ _ lt_g7).trans kg70
          replace kg71 := ((bcell b).1 _ _ lt_g7).trans kg71
          replace lt_g4 := Nat.lt_of_lt_of_le lt_g4 b.size
          replace lt_g5 := Nat.lt_of_lt_of_le lt_g5 b.size
          replace lt_g7 := Nat.lt_of_lt_of_le lt_g7 b.size
          replace HR := Bx.mk (HR.out.below b)
          replace HSr := Bx.mk (HSr.out.below b)
          replace HB := Bx.mk (HB.out.below b)
          replace bw := bw.trans (b.mono bw.size)
          clear b
          go_upto_region 14 with (fail)
          have hB : Bx (Below wy.heap.size wy wy.drew) := ⟨(Below.refl _ _).drew⟩
          have hB0 : Bx (Below wy.heap.size wy wy) := ⟨Below.refl _ _⟩
          have kg40_d : wy.drew.cell? _ = _ := kg40
          refine wp_region_held_drew (S := fun w' => w'.cell? ⟨g4, 0, none⟩ = some (.int .i64 m) ∧ Bx (Below wy.heap.size wy w')) (by kernel_rfl) ?hS1000 (fun hHeld => ?rest1000)
          case hS1000 => (try dsimp only); (refine (fun (hK : Bx (Below wy.heap.size wy _)) => ⟨((bcell hK.out).1 _ _ lt_g4).trans kg40, hK⟩) ?_; (first | with_reducible assumption | with_reducible exact bx_alloc (by with_reducible assumption) _ | with_reducible exact bx_drew (by with_reducible assumption) | with_reducible exact bx_drew (bx_alloc (by with_reducible assumption) _)))
          case rest1000 =>
          refine wpAnyH_take (i := 0) (v := ?v1001) (at_list rfl) (by kernel_rfl) (by kernel_rfl) (by kernel_rfl) (fun _ _ _ h => h) (Or.inl ⟨by rfl, ?hy1001⟩) (by assumption) ?rest1001
          case hy1001 => intro w hSw; (try dsimp only at hSw); go_simp; try (with_reducible rfl)
          case rest1001 =>
          try simp only [Act.put, List.setIfInBounds_toArray, List.set_cons_zero, List.set_cons_succ]
          refine wpAnyH_take (i := 1) (v := ?v1002) (at_list rfl) (by kernel_rfl) (by kernel_rfl) (by kernel_rfl) (fun _ _ _ h => h) (Or.inl ⟨by rfl, ?hy1002⟩) (by assumption) ?rest1002
          case hy1002 => intro w hSw; (try dsimp only at hSw); go_simp; try (with_reducible rfl)
          case rest1002 =>
          try simp only [Act.put, List.setIfInBounds_toArray, List.set_cons_zero, List.set_cons_succ]
          refine wpAnyH_take (i := 2) (v := undef) (at_list rfl) (by kernel_rfl) (by kernel_rfl) (by kernel_rfl) (fun _ _ _ h => h) (Or.inr ⟨by rfl, rfl⟩) (by assumption) ?rest1003
          case rest1003 =>
          try simp only [Act.put, List.setIfInBounds_toArray, List.set_cons_zero, List.set_cons_succ]
          refine wpAnyH_take (i := 3) (v := undef) (at_list rfl) (by kernel_rfl) (by kernel_rfl) (by kernel_rfl) (fun _ _ _ h => h) (Or.inr ⟨by rfl, rfl⟩) (by assumption) ?rest1004
          case rest1004 =>
          try simp only [Act.put, List.setIfInBounds_toArray, List.set_cons_zero, List.set_cons_succ]
          refine wpAnyH_take (i := 4) (v := undef) (at_list rfl) (by kernel_rfl) (by kernel_rfl) (by kernel_rfl) (fun _ _ _ h => h) (Or.inr ⟨by rfl, rfl⟩) (by assumption) ?rest1005
          case rest1005 =>
          try simp only [Act.put, List.setIfInBounds_toArray, List.set_cons_zero, List.set_cons_succ]
          refine wpAnyH_take (i := 5) (v := undef) (at_list rfl) (by kernel_rfl) (by kernel_rfl) (by kernel_rfl) (fun _ _ _ h => h) (Or.inr ⟨by rfl, rfl⟩) (by assumption) ?rest1006
          case rest1006 =>
          try simp only [Act.put, List.setIfInBounds_toArray, List.set_cons_zero, List.set_cons_succ]
          refine wpAnyH_take (i := 6) (v := undef) (at_list rfl) (by kernel_rfl) (by kernel_rfl) (by kernel_rfl) (fun _ _ _ h => h) (Or.inr ⟨by rfl, rfl⟩) (by assumption) ?rest1007
          case rest1007 =>
          try simp only [Act.put, List.setIfInBounds_toArray, List.set_cons_zero, List.set_cons_succ]
          refine wpAnyH_take (i := 7) (v := undef) (at_list rfl) (by kernel_rfl) (by kernel_rfl) (by kernel_rfl) (fun _ _ _ h => h) (Or.inr ⟨by rfl, rfl⟩) (by assumption) ?rest1008
          case rest1008 =>
          try simp only [Act.put, List.setIfInBounds_toArray, List.set_cons_zero, List.set_cons_succ]
          refine wpAnyH_take (i := 8) (v := undef) (at_list rfl) (by kernel_rfl) (by kernel_rfl) (by kernel_rfl) (fun _ _ _ h => h) (Or.inr ⟨by rfl, rfl⟩) (by assumption) ?rest1009
          case rest1009 =>
          try simp only [Act.put, List.setIfInBounds_toArray, List.set_cons_zero, List.set_cons_succ]
          refine wpAnyH_take (i := 9) (v := undef) (at_list rfl) (by kernel_rfl) (by kernel_rfl) (by kernel_rfl) (fun _ _ _ h => h) (Or.inr ⟨by rfl, rfl⟩) (by assumption) ?rest1010
          case rest1010 =>
          try simp only [Act.put, List.setIfInBounds_toArray, List.set_cons_zero, List.set_cons_succ]
          refine wpAnyH_take (i := 10) (v := undef) (at_list rfl) (by kernel_rfl) (by kernel_rfl) (by kernel_rfl) (fun _ _ _ h => h) (Or.inr ⟨by rfl, rfl⟩) (by assumption) ?rest1011
          case rest1011 =>
          try simp only [Act.put, List.setIfInBounds_toArray, List.set_cons_zero, List.set_cons_succ]
          refine wpAnyH_take (i := 11) (v := undef) (at_list rfl) (by kernel_rfl) (by kernel_rfl) (by kernel_rfl) (fun _ _ _ h => h) (Or.inr ⟨by rfl, rfl⟩) (by assumption) ?rest1012
          case rest1012 =>
          try simp only [Act.put, List.setIfInBounds_toArray, List.set_cons_zero, List.set_cons_succ]
          refine wpAnyH_take (i := 12) (v := undef) (at_list rfl) (by kernel_rfl) (by kernel_rfl) (by kernel_rfl) (fun _ _ _ h => h) (Or.inr ⟨by rfl, rfl⟩) (by assumption) ?rest1013
          case rest1013 =>
          try simp only [Act.put, List.setIfInBounds_toArray, List.set_cons_zero, List.set_cons_succ]
          refine wpAnyH_take (i := 13) (v := undef) (at_list rfl) (by kernel_rfl) (by kernel_rfl) (by kernel_rfl) (fun _ _ _ h => h) (Or.inr ⟨by rfl, rfl⟩) (by assumption) ?rest1014
          case rest1014 =>
          try simp only [Act.put, List.setIfInBounds_toArray, List.set_cons_zero, List.set_cons_succ]
          refine wpAnyH_take (i := 14) (v := undef) (at_list rfl) (by kernel_rfl) (by kernel_rfl) (by kernel_rfl) (fun _ _ _ h => h) (Or.inr ⟨by rfl, rfl⟩) (by assumption) ?rest1015
          case rest1015 =>
          try simp only [Act.put, List.setIfInBounds_toArray, List.set_cons_zero, List.set_cons_succ]
          refine wpAnyH_take (i := 15) (v := undef) (at_list rfl) (by kernel_rfl) (by kernel_rfl) (by kernel_rfl) (fun _ _ _ h => h) (Or.inr ⟨by rfl, rfl⟩) (by assumption) ?rest1016
          case rest1016 =>
          try simp only [Act.put, List.setIfInBounds_toArray, List.set_cons_zero, List.set_cons_succ]
          refine wpAnyH_take (i := 16) (v := undef) (at_list rfl) (by kernel_rfl) (by kernel_rfl) (by kernel_rfl) (fun _ _ _ h => h) (Or.inr ⟨by rfl, rfl⟩) (by assumption) ?rest1017
          case rest1017 =>
          try simp only [Act.put, List.setIfInBounds_toArray, List.set_cons_zero, List.set_cons_succ]
          refine wpAnyH_take (i := 17) (v := undef) (at_list rfl) (by kernel_rfl) (by kernel_rfl) (by kernel_rfl) (fun _ _ _ h => h) (Or.inr ⟨by rfl, rfl⟩) (by assumption) ?rest1018
          case rest1018 =>
          try simp only [Act.put, List.setIfInBounds_toArray, List.set_cons_zero, List.set_cons_succ]
          refine wpAnyH_take (i := 18) (v := undef) (at_list rfl) (by kernel_rfl) (by kernel_rfl) (by kernel_rfl) (fun _ _ _ h => h) (Or.inr ⟨by rfl, rfl⟩) (by assumption) ?rest1019
          case rest1019 =>
          try simp only [Act.put, List.setIfInBounds_toArray, List.set_cons_zero, List.set_cons_succ]
          refine wpAnyH_take (i := 19) (v := ?v1020) (at_list rfl) (by kernel_rfl) (by kernel_rfl) (by kernel_rfl) (fun _ _ _ h => h) (Or.inl ⟨by rfl, ?hy1020⟩) (by assumption) ?rest1020
          case hy1020 => intro w hSw; (try dsimp only at hSw); go_simp; try (with_reducible rfl)
          case rest1020 =>
          try simp only [Act.put, List.setIfInBounds_toArray, List.set_cons_zero, List.set_cons_succ]
          refine wpAnyH_done (by kernel_rfl) ?_ _
          have hzd : Below wy.heap.size wy wy.drew := (Below.refl _ _).drew
          obtain ⟨wd, hwd⟩ : ∃ wd, wd = wy.drew := ⟨_, rfl⟩
          rw [← hwd] at hzd
          rw [← hwd]
          have b := hzd
          clear hwd hzd hHeld
          replace kg40 := ((bcell b).1 _ _ lt_g4).trans kg40
          replace kg41 := ((bcell b).1 _ _ lt_g4).trans kg41
          replace kg50 := ((bcell b).1 _ _ lt_g5).trans kg50
          replace kg51 := ((bcell b).1 _ _ lt_g5).trans kg51
          replace kg70 := ((bcell b).1 _ _ lt_g7).trans kg70
          replace kg71 := ((bcell b).1 _ _ lt_g7).trans kg71
          replace lt_g4 := Nat.lt_of_lt_of_le lt_g4 b.size
          replace lt_g5 := Nat.lt_of_lt_of_le lt_g5 b.size
          replace lt_g7 := Nat.lt_of_lt_of_le lt_g7 b.size
          replace HR := Bx.mk (HR.out.below b)
          replace HSr := Bx.mk (HSr.out.below b)
          replace HB := Bx.mk (HB.out.below b)
          replace bw := bw.trans (b.mono bw.size)
          clear b
          go_wp2_with fail
          go_loopw [113] (fun iv wr => iv = .int .i64 0 ∧ Bx (Below wd.heap.size wd wr)) (fun _ _ => 0)
          case atStart => exact ⟨rfl, ⟨Below.refl _ _⟩⟩
          case round =>
            obtain ⟨rfl, HRr⟩ := hrel
            have b := HRr.out
            clear HRr
            replace kg40 := ((bcell b).1 _ _ lt_g4).trans kg40
            replace kg41 := ((bcell b).1 _ _ lt_g4).trans kg41
            replace kg50 := ((bcell b).1 _ _ lt_g5).trans kg50
            replace kg51 := ((bcell b).1 _ _ lt_g5).trans kg51
            replace kg70 := ((bcell b).1 _ _ lt_g7).trans kg70
            replace kg71 := ((bcell b).1 _ _ lt_g7).trans kg71
            replace lt_g4 := Nat.lt_of_lt_of_le lt_g4 b.size
            replace lt_g5 := Nat.lt_of_lt_of_le lt_g5 b.size
            replace lt_g7 := Nat.lt_of_lt_of_le lt_g7 b.size
            replace HR := Bx.mk (HR.out.below b)
            replace HSr := Bx.mk (HSr.out.below b)
            replace HB := Bx.mk (HB.out.below b)
            replace bw := bw.trans (b.mono bw.size)
            clear b
            go_wp2_with fail
            refine (makeNum_any _ _ _ 60 _ (by omega) (by exact HB.out)).mono ?_
            rintro e w14 ⟨q3, hq3, rfl, b⟩
            replace kg40 := ((bcell b).1 _ _ lt_g4).trans kg40
            replace kg41 := ((bcell b).1 _ _ lt_g4).trans kg41
            replace kg50 := ((bcell b).1 _ _ lt_g5).trans kg50
            replace kg51 := ((bcell b).1 _ _ lt_g5).trans kg51
            replace kg70 := ((bcell b).1 _ _ lt_g7).trans kg70
            replace kg71 := ((bcell b).1 _ _ lt_g7).trans kg71
            replace lt_g4 := Nat.lt_of_lt_of_le lt_g4 b.size
            replace lt_g5 := Nat.lt_of_lt_of_le lt_g5 b.size
            replace lt_g7 := Nat.lt_of_lt_of_le lt_g7 b.size
            replace HR := Bx.mk (HR.out.below b)
            replace HSr := Bx.mk (HSr.out.below b)
            replace HB := Bx.mk (HB.out.below b)
            replace bw := bw.trans (b.mono bw.size)
            clear b
            obtain ⟨u0, hu0⟩ : ∃ u0 : Nat, u0 = m - 1 := ⟨_, rfl⟩
            have hui : (m : Int) - 1 = (u0 : Int) := by omega
            obtain ⟨M, hM⟩ : ∃ M : Nat, M = max 1 u0 := ⟨_, rfl⟩
            have hmx : max (1 : Int) (u0 : Int) = (M : Int) := by omega
            have hM1 : 1 ≤ M := by omega
            have hMz : ¬ (M : Int) = 0 := by omega
            have hMz2 : ¬ M = 0 := by omega
            obtain ⟨v, hv⟩ : ∃ v : Nat, v = q3 % M := ⟨_, rfl⟩
            have hvM : v < M := by rw [hv]; exact Nat.mod_lt _ (by omega)
            have hve : (q3 : Int) % (M : Int) = (v : Int) := by rw [hv]; exact (Int.natCast_emod q3 M).symm
            have hvt : (q3 : Int).tmod (M : Int) = (v : Int) := by rw [hv]; exact (Int.ofNat_tmod q3 M).symm
            obtain ⟨u, hu⟩ : ∃ u : Nat, u = 1 + v := ⟨_, rfl⟩
            have hue : (1 : Int) + (v : Int) = (u : Int) := by omega
            have hub : Bx (1 ≤ u ∧ u ≤ max 1 (m - 1)) := ⟨by omega⟩
            have hul : u ≤ 24 := by omega
            have hM24 : M ≤ 24 := by omega
            clear hu hv hM hu0
            go_wp2_with fail
            clear hue hve hvt hvM hMz hMz2 hmx hui
            by_cases hgu : Nat.gcd u m = 1
            · as_aux_lemma =>
              obtain ⟨ST, hST⟩ : ∃ ST, ST = stL (m : Int) r (u : Int) := ⟨_, rfl⟩
              have HSTR : Bx (∀ A c W, IR W A r → Calls Tryz.prog 19 #[.agg #[.int .i64 m, .slice A r.length c], .int .i64 u] W (GivesRB W m ST true)) := ⟨fun A c W h => by rw [hST]; exact stretch_yes m A c r m u rfl hub.out hgu W HROK.out h⟩
              have HMX : Bx (∀ A c W, IR W A ST → Calls Tryz.prog 9 #[.agg #[.int .i64 m, .slice A ST.length c]] W fun e w' => e = .returned (.bool false) ∧ Below W.heap.size W w') := ⟨fun A c W h => by
                have := implMb_any m A c ST W hm64.out h
                rw [hST, st_both hn12 hub.out hgu HROK.out, HBE.out, ← hST] at this
                exact this⟩
              clear hST hgu
              refine (HSTR.out _ _ _ (by exact HR.out)).mono ?_
              rintro e w15 ⟨A14, c14, rfl, io, b⟩
              replace kg40 := ((bcell b).1 _ _ lt_g4).trans kg40
              replace kg41 := ((bcell b).1 _ _ lt_g4).trans kg41
              replace kg50 := ((bcell b).1 _ _ lt_g5).trans kg50
              replace kg51 := ((bcell b).1 _ _ lt_g5).trans kg51
              replace kg70 := ((bcell b).1 _ _ lt_g7).trans kg70
              replace kg71 := ((bcell b).1 _ _ lt_g7).trans kg71
              replace lt_g4 := Nat.lt_of_lt_of_le lt_g4 b.size
              replace lt_g5 := Nat.lt_of_lt_of_le lt_g5 b.size
              replace lt_g7 := Nat.lt_of_lt_of_le lt_g7 b.size
              replace HR := Bx.mk (HR.out.below b)
              replace HSr := Bx.mk (HSr.out.below b)
              replace HB := Bx.mk (HB.out.below b)
              replace bw := bw.trans (b.mono bw.size)
              clear b
              have HXr := Bx.mk io.reads
              clear io
              obtain ⟨w16, hW⟩ : ∃ w16, w16 = w15.alloc (.cells #[.int .i64 m, .slice A14 ST.length c14] 26) := ⟨_, rfl⟩
              obtain ⟨g14, hg⟩ : ∃ g14, g14 = w15.heap.size := ⟨_, rfl⟩
              have b : Below w15.heap.size w15 w16 := by rw [hW]; exact below_alloc _ _
              have kg140 : w16.cell? ⟨g14, 0, none⟩ = some (.int .i64 m) := by rw [hW, hg]; simp [go_sem]
              have kg141 : w16.cell? ⟨g14, 1, none⟩ = some (.slice A14 ST.length c14) := by rw [hW, hg]; simp [go_sem]
              have lt_g14 : g14 < w16.heap.size := by rw [hW, hg]; simp
              replace kg40 := ((bcell b).1 _ _ lt_g4).trans kg40
              replace kg41 := ((bcell b).1 _ _ lt_g4).trans kg41
              replace kg50 := ((bcell b).1 _ _ lt_g5).trans kg50
              replace kg51 := ((bcell b).1 _ _ lt_g5).trans kg51
              replace kg70 := ((bcell b).1 _ _ lt_g7).trans kg70
              replace kg71 := ((bcell b).1 _ _ lt_g7).trans kg71
              replace lt_g4 := Nat.lt_of_lt_of_le lt_g4 b.size
              replace lt_g5 := Nat.lt_of_lt_of_le lt_g5 b.size
              replace lt_g7 := Nat.lt_of_lt_of_le lt_g7 b.size
              replace HR := Bx.mk (HR.out.below b)
              replace HSr := Bx.mk (HSr.out.below b)
              replace HXr := Bx.mk (HXr.out.below b)
              replace HB := Bx.mk (HB.out.below b)
              replace bw := bw.trans (b.mono bw.size)
              clear b
              go_upto_region 24 with (fail)
              rw [← hW, ← hg]
              clear hW hg
              go_wp2_with fail
              refine (HMX.out _ _ _ (by exact HXr.out)).mono ?_
              rintro e w17 ⟨rfl, b⟩
              replace kg40 := ((bcell b).1 _ _ lt_g4).trans kg40
              replace kg41 := ((bcell b).1 _ _ lt_g4).trans kg41
              replace kg50 := ((bcell b).1 _ _ lt_g5).trans kg50
              replace kg51 := ((bcell b).1 _ _ lt_g5).trans kg51
              replace kg70 := ((bcell b).1 _ _ lt_g7).trans kg70
              replace kg71 := ((bcell b).1 _ _ lt_g7).trans kg71
              replace kg140 := ((bcell b).1 _ _ lt_g14).trans kg140
              replace kg141 := ((bcell b).1 _ _ lt_g14).trans kg141
              replace lt_g4 := Nat.lt_of_lt_of_le lt_g4 b.size
              replace lt_g5 := Nat.lt_of_lt_of_le lt_g5 b.size
              replace lt_g7 := Nat.lt_of_lt_of_le lt_g7 b.size
              replace lt_g14 := Nat.lt_of_lt_of_le lt_g14 b.size
              replace HR := Bx.mk (HR.out.below b)
              replace HSr := Bx.mk (HSr.out.below b)
              replace HXr := Bx.mk (HXr.out.below b)
              replace HB := Bx.mk (HB.out.below b)
              replace bw := bw.trans (b.mono bw.size)
              clear b
              go_upto_region 26 with (fail)
              by_cases hm1 : m = 1
              · have hmb : (((m : Nat) : Int) == 1) = true := by rw [beq_iff_eq]; omega
                go_wp2_with fail
                go_ret
                exact ⟨rfl, bw⟩
              have hmb : (((m : Nat) : Int) == 1) = false := by rw [beq_eq_false_iff_ne]; omega
              by_cases hr0 : r.length = 0
              · have hrb : (((r.length : Nat) : Int) == 0) = true := by rw [beq_iff_eq]; omega
                go_wp2_with fail
                go_ret
                exact ⟨rfl, bw⟩
              have hrb : (((r.length : Nat) : Int) == 0) = false := by rw [beq_eq_false_iff_ne]; omega
              go_wp2_with fail
              refine (HTSl.out _ _ _ _ _ (by exact HR.out) (by exact HSr.out)).mono ?_
              rintro e w18 ⟨rfl, b⟩
              replace kg40 := ((bcell b).1 _ _ lt_g4).trans kg40
              replace kg41 := ((bcell b).1 _ _ lt_g4).trans kg41
              replace kg50 := ((bcell b).1 _ _ lt_g5).trans kg50
              replace kg51 := ((bcell b).1 _ _ lt_g5).trans kg51
              replace kg70 := ((bcell b).1 _ _ lt_g7).trans kg70
              replace kg71 := ((bcell b).1 _ _ lt_g7).trans kg71
              replace kg140 := ((bcell b).1 _ _ lt_g14).trans kg140
              replace kg141 := ((bcell b).1 _ _ lt_g14).trans kg141
              replace lt_g4 := Nat.lt_of_lt_of_le lt_g4 b.size
              replace lt_g5 := Nat.lt_of_lt_of_le lt_g5 b.size
              replace lt_g7 := Nat.lt_of_lt_of_le lt_g7 b.size
              replace lt_g14 := Nat.lt_of_lt_of_le lt_g14 b.size
              replace HR := Bx.mk (HR.out.below b)
              replace HSr := Bx.mk (HSr.out.below b)
              replace HXr := Bx.mk (HXr.out.below b)
              replace HB := Bx.mk (HB.out.below b)
              replace bw := bw.trans (b.mono bw.size)
              clear b
              go_wp2_with fail
              go_ret
              exact ⟨rfl, bw⟩
            · as_aux_lemma =>
              have HSTR : Bx (∀ A c W, IR W A r → Calls Tryz.prog 19 #[.agg #[.int .i64 m, .slice A r.length c], .int .i64 u] W fun e w' => ∃ A2 c2, e = .returned (.tuple #[.agg #[.int .i64 0, .slice A2 0 c2], .bool false]) ∧ Below W.heap.size W w') := ⟨fun A c W h => (stretch_not m A c r m u rfl hub.out hgu W HROK.out h).mono fun e w' h => by
                obtain ⟨A2, c2, e1, _, e3⟩ := h
                exact ⟨A2, c2, e1, e3⟩⟩
              clear hgu
              refine (HSTR.out _ _ _ (by exact HR.out)).mono ?_
              rintro e w19 ⟨A14, c14, rfl, b⟩
              replace kg40 := ((bcell b).1 _ _ lt_g4).trans kg40
              replace kg41 := ((bcell b).1 _ _ lt_g4).trans kg41
              replace kg50 := ((bcell b).1 _ _ lt_g5).trans kg50
              replace kg51 := ((bcell b).1 _ _ lt_g5).trans kg51
              replace kg70 := ((bcell b).1 _ _ lt_g7).trans kg70
              replace kg71 := ((bcell b).1 _ _ lt_g7).trans kg71
              replace lt_g4 := Nat.lt_of_lt_of_le lt_g4 b.size
              replace lt_g5 := Nat.lt_of_lt_of_le lt_g5 b.size
              replace lt_g7 := Nat.lt_of_lt_of_le lt_g7 b.size
              replace HR := Bx.mk (HR.out.below b)
              replace HSr := Bx.mk (HSr.out.below b)
              replace HB := Bx.mk (HB.out.below b)
              replace bw := bw.trans (b.mono bw.size)
              clear b
              obtain ⟨w20, hW⟩ : ∃ w20, w20 = w19.alloc (.cells #[.int .i64 0, .slice A14 0 c14] 26) := ⟨_, rfl⟩
              obtain ⟨g14, hg⟩ : ∃ g14, g14 = w19.heap.size := ⟨_, rfl⟩
              have b : Below w19.heap.size w19 w20 := by rw [hW]; exact below_alloc _ _
              have kg140 : w20.cell? ⟨g14, 0, none⟩ = some (.int .i64 0) := by rw [hW, hg]; simp [go_sem]
              have kg141 : w20.cell? ⟨g14, 1, none⟩ = some (.slice A14 0 c14) := by rw [hW, hg]; simp [go_sem]
              have lt_g14 : g14 < w20.heap.size := by rw [hW, hg]; simp
              replace kg40 := ((bcell b).1 _ _ lt_g4).trans kg40
              replace kg41 := ((bcell b).1 _ _ lt_g4).trans kg41
              replace kg50 := ((bcell b).1 _ _ lt_g5).trans kg50
              replace kg51 := ((bcell b).1 _ _ lt_g5).trans kg51
              replace kg70 := ((bcell b).1 _ _ lt_g7).trans kg70
              replace kg71 := ((bcell b).1 _ _ lt_g7).trans kg71
              replace lt_g4 := Nat.lt_of_lt_of_le lt_g4 b.size
              replace lt_g5 := Nat.lt_of_lt_of_le lt_g5 b.size
              replace lt_g7 := Nat.lt_of_lt_of_le lt_g7 b.size
              replace HR := Bx.mk (HR.out.below b)
              replace HSr := Bx.mk (HSr.out.below b)
              replace HB := Bx.mk (HB.out.below b)
              replace bw := bw.trans (b.mono bw.size)
              clear b
              go_upto_region 24 with (fail)
              rw [← hW, ← hg]
              clear hW hg
              go_upto_region 26 with (fail)
              by_cases hm1 : m = 1
              · have hmb : (((m : Nat) : Int) == 1) = true := by rw [beq_iff_eq]; omega
                go_wp2_with fail
                go_ret
                exact ⟨rfl, bw⟩
              have hmb : (((m : Nat) : Int) == 1) = false := by rw [beq_eq_false_iff_ne]; omega
              by_cases hr0 : r.length = 0
              · have hrb : (((r.length : Nat) : Int) == 0) = true := by rw [beq_iff_eq]; omega
                go_wp2_with fail
                go_ret
                exact ⟨rfl, bw⟩
              have hrb : (((r.length : Nat) : Int) == 0) = false := by rw [beq_eq_false_iff_ne]; omega
              go_wp2_with fail
              refine (HTSl.out _ _ _ _ _ (by exact HR.out) (by exact HSr.out)).mono ?_
              rintro e w21 ⟨rfl, b⟩
              replace kg40 := ((bcell b).1 _ _ lt_g4).trans kg40
              replace kg41 := ((bcell b).1 _ _ lt_g4).trans kg41
              replace kg50 := ((bcell b).1 _ _ lt_g5).trans kg50
              replace kg51 := ((bcell b).1 _ _ lt_g5).trans kg51
              replace kg70 := ((bcell b).1 _ _ lt_g7).trans kg70
              replace kg71 := ((bcell b).1 _ _ lt_g7).trans kg71
              replace kg140 := ((bcell b).1 _ _ lt_g14).trans kg140
              replace kg141 := ((bcell b).1 _ _ lt_g14).trans kg141
              replace lt_g4 := Nat.lt_of_lt_of_le lt_g4 b.size
              replace lt_g5 := Nat.lt_of_lt_of_le lt_g5 b.size
              replace lt_g7 := Nat.lt_of_lt_of_le lt_g7 b.size
              replace lt_g14 := Nat.lt_of_lt_of_le lt_g14 b.size
              replace HR := Bx.mk (HR.out.below b)
              replace HSr := Bx.mk (HSr.out.below b)
              replace HB := Bx.mk (HB.out.below b)
              replace bw := bw.trans (b.mono bw.size)
              clear b
              go_wp2_with fail
              go_ret
              exact ⟨rfl, bw⟩
      | cons y L' =>
        have HBE : Bx (mbI m r = true) := ⟨HBTH.out.2 (by simp)⟩
        have HYM := Bx.mk (HLm.out y List.mem_cons_self)
        have HYOK : Bx (rhOk m y = true) := ⟨HYM.out.1⟩
        have HYT : Bx (tilesB m r y = true) := ⟨HYM.out.2.2⟩
        have HTSE := Bx.mk (HSTB.out HBE.out)
        have hr0 : r.length ≠ 0 := fun h => by have := tiles_len HYT.out; rw [h, Nat.zero_mul] at this; omega
        have HTSl : Bx (∀ A B c d W, IR W A r → IR W B S → Calls Tryz.prog 14 #[.agg #[.int .i64 m, .slice A r.length c], .agg #[.int .i64 m, .slice B S.length d]] W fun e w' => e = .returned (.bool true) ∧ Below W.heap.size W w') := ⟨fun A B c d W h1 h2 => by rw [← HTSE.out]; exact HTS.out A B c d W h1 h2⟩
        have HFPl : Bx (∀ A c W, IR W A r → Calls Tryz.prog 7 #[.agg #[.int .i64 m, .slice A r.length c]] W (GivesRB W m y true)) := ⟨fun A c W h => by
          have h := HFP.out A c W h
          obtain ⟨e0, e1, e2⟩ := fp_some HFPE.out
          rw [e0, e1, e2] at h
          exact h⟩
        have HMBl : Bx (∀ A c W, IR W A r → Calls Tryz.prog 9 #[.agg #[.int .i64 m, .slice A r.length c]] W fun e w' => e = .returned (.bool true) ∧ Below W.heap.size W w') := ⟨fun A c W h => by rw [← HBE.out]; exact HMB.out A c W h⟩
        have hmm : mfI m r = true ∧ msI m r = true := by have := HBE.out; unfold mbI at this; rwa [Bool.and_eq_true] at this
        have HMFl : Bx (∀ A c W, IR W A r → Calls Tryz.prog 11 #[.agg #[.int .i64 m, .slice A r.length c]] W fun e w' => e = .returned (.bool true) ∧ Below W.heap.size W w') := ⟨fun A c W h => by rw [← hmm.1]; exact HMF.out A c W h⟩
        have HMSl : Bx (∀ A c W, IR W A r → Calls Tryz.prog 12 #[.agg #[.int .i64 m, .slice A r.length c]] W fun e w' => e = .returned (.bool true) ∧ Below W.heap.size W w') := ⟨fun A c W h => by rw [← hmm.2]; exact HMS.out A c W h⟩
        obtain ⟨L, hLe⟩ : ∃ L, L = y :: L' := ⟨_, rfl⟩
        rw [← hLe] at HPT HCP HLm HORD hLl
        have HL0 : Bx (L[0]? = some y) := ⟨by rw [hLe]; rfl⟩
        have hLpos : 0 < L.length := by rw [hLe]; simp
        have hLg : (L.length : Int) > 0 := by omega
        have hLne : ((L.length : Int) != (L.length : Int)) = false := by simp
        clear HFP HMB HMF HMS HTS HBTH HTBI HSTB HTSE HFPE hmm hLe HYM
        go_upto_region 8 with (fail)
        go_wp2_with fail
        refine (HFPl.out _ _ _ (by exact HR.out)).mono ?_
        rintro e w22 ⟨A5, c5, rfl, io, b⟩
        replace kg40 := ((bcell b).1 _ _ lt_g4).trans kg40
        replace kg41 := ((bcell b).1 _ _ lt_g4).trans kg41
        replace lt_g4 := Nat.lt_of_lt_of_le lt_g4 b.size
        replace HR := Bx.mk (HR.out.below b)
        replace HB := Bx.mk (HB.out.below b)
        replace bw := bw.trans (b.mono bw.size)
        clear b
        have HY := Bx.mk io.reads
        clear io
        obtain ⟨w23, hW⟩ : ∃ w23, w23 = w22.alloc (.cells #[.int .i64 m, .slice A5 y.length c5] 26) := ⟨_, rfl⟩
        obtain ⟨g5, hg⟩ : ∃ g5, g5 = w22.heap.size := ⟨_, rfl⟩
        have b : Below w22.heap.size w22 w23 := by rw [hW]; exact below_alloc _ _
        have kg50 : w23.cell? ⟨g5, 0, none⟩ = some (.int .i64 m) := by rw [hW, hg]; simp [go_sem]
        have kg51 : w23.cell? ⟨g5, 1, none⟩ = some (.slice A5 y.length c5) := by rw [hW, hg]; simp [go_sem]
        have lt_g5 : g5 < w23.heap.size := by rw [hW, hg]; simp
        replace kg40 := ((bcell b).1 _ _ lt_g4).trans kg40
        replace kg41 := ((bcell b).1 _ _ lt_g4).trans kg41
        replace lt_g4 := Nat.lt_of_lt_of_le lt_g4 b.size
        replace HR := Bx.mk (HR.out.below b)
        replace HY := Bx.mk (HY.out.below b)
        replace HB := Bx.mk (HB.out.below b)
        replace bw := bw.trans (b.mono bw.size)
        clear b
        go_upto_region 9 with (fail)
        rw [← hW, ← hg]
        clear hW hg
        go_wp2_with fail
        refine (HSD.out _ _ _ (by exact HR.out)).mono ?_
        rintro e w24 ⟨A7, c7, rfl, io, b⟩
        replace kg40 := ((bcell b).1 _ _ lt_g4).trans kg40
        replace kg41 := ((bcell b).1 _ _ lt_g4).trans kg41
        replace kg50 := ((bcell b).1 _ _ lt_g5).trans kg50
        replace kg51 := ((bcell b).1 _ _ lt_g5).trans kg51
        replace lt_g4 := Nat.lt_of_lt_of_le lt_g4 b.size
        replace lt_g5 := Nat.lt_of_lt_of_le lt_g5 b.size
        replace HR := Bx.mk (HR.out.below b)
        replace HY := Bx.mk (HY.out.below b)
        replace HB := Bx.mk (HB.out.below b)
        replace bw := bw.trans (b.mono bw.size)
        clear b
        have HSr := Bx.mk io.reads
        clear io
        obtain ⟨w25, hW⟩ : ∃ w25, w25 = w24.alloc (.cells #[.int .i64 m, .slice A7 S.length c7] 26) := ⟨_, rfl⟩
        obtain ⟨g7, hg⟩ : ∃ g7, g7 = w24.heap.size := ⟨_, rfl⟩
        have b : Below w24.heap.size w24 w25 := by rw [hW]; exact below_alloc _ _
        have kg70 : w25.cell? ⟨g7, 0, none⟩ = some (.int .i64 m) := by rw [hW, hg]; simp [go_sem]
        have kg71 : w25.cell? ⟨g7, 1, none⟩ = some (.slice A7 S.length c7) := by rw [hW, hg]; simp [go_sem]
        have lt_g7 : g7 < w25.heap.size := by rw [hW, hg]; simp
        replace kg40 := ((bcell b).1 _ _ lt_g4).trans kg40
        replace kg41 := ((bcell b).1 _ _ lt_g4).trans kg41
        replace kg50 := ((bcell b).1 _ _ lt_g5).trans kg50
        replace kg51 := ((bcell b).1 _ _ lt_g5).trans kg51
        replace lt_g4 := Nat.lt_of_lt_of_le lt_g4 b.size
        replace lt_g5 := Nat.lt_of_lt_of_le lt_g5 b.size
        replace HR := Bx.mk (HR.out.below b)
        replace HY := Bx.mk (HY.out.below b)
        replace HSr := Bx.mk (HSr.out.below b)
        replace HB := Bx.mk (HB.out.below b)
        replace bw := bw.trans (b.mono bw.size)
        clear b
        go_upto_region 10 with (fail)
        rw [← hW, ← hg]
        clear hW hg
        go_wp2_with fail
        refine (HMBl.out _ _ _ (by exact HR.out)).mono ?_
        rintro e w26 ⟨rfl, b⟩
        replace kg40 := ((bcell b).1 _ _ lt_g4).trans kg40
        replace kg41 := ((bcell b).1 _ _ lt_g4).trans kg41
        replace kg50 := ((bcell b).1 _ _ lt_g5).trans kg50
        replace kg51 := ((bcell b).1 _ _ lt_g5).trans kg51
        replace kg70 := ((bcell b).1 _ _ lt_g7).trans kg70
        replace kg71 := ((bcell b).1 _ _ lt_g7).trans kg71
        replace lt_g4 := Nat.lt_of_lt_of_le lt_g4 b.size
        replace lt_g5 := Nat.lt_of_lt_of_le lt_g5 b.size
        replace lt_g7 := Nat.lt_of_lt_of_le lt_g7 b.size
        replace HR := Bx.mk (HR.out.below b)
        replace HY := Bx.mk (HY.out.below b)
        replace HSr := Bx.mk (HSr.out.below b)
        replace HB := Bx.mk (HB.out.below b)
        replace bw := bw.trans (b.mono bw.size)
        clear b
        go_wp2_with fail
        refine (HPT.out _ _ _ (by exact HR.out)).mono ?_
        rintro e w27 ⟨V, ws, gs, rfl, hrows, b⟩
        replace kg40 := ((bcell b).1 _ _ lt_g4).trans kg40
        replace kg41 := ((bcell b).1 _ _ lt_g4).trans kg41
        replace kg50 := ((bcell b).1 _ _ lt_g5).trans kg50
        replace kg51 := ((bcell b).1 _ _ lt_g5).trans kg51
        replace kg70 := ((bcell b).1 _ _ lt_g7).trans kg70
        replace kg71 := ((bcell b).1 _ _ lt_g7).trans kg71
        replace lt_g4 := Nat.lt_of_lt_of_le lt_g4 b.size
        replace lt_g5 := Nat.lt_of_lt_of_le lt_g5 b.size
        replace lt_g7 := Nat.lt_of_lt_of_le lt_g7 b.size
        replace HR := Bx.mk (HR.out.below b)
        replace HY := Bx.mk (HY.out.below b)
        replace HSr := Bx.mk (HSr.out.below b)
        replace HB := Bx.mk (HB.out.below b)
        replace bw := bw.trans (b.mono bw.size)
        clear b
        obtain ⟨AL, cL, rfl, hrz⟩ := rdz_of hrows
        have HLr := Bx.mk hrz
        clear hrows hrz
        go_wp2_with fail
        refine (HMFl.out _ _ _ (by exact HR.out)).mono ?_
        rintro e w28 ⟨rfl, b⟩
        replace kg40 := ((bcell b).1 _ _ lt_g4).trans kg40
        replace kg41 := ((bcell b).1 _ _ lt_g4).trans kg41
        replace kg50 := ((bcell b).1 _ _ lt_g5).trans kg50
        replace kg51 := ((bcell b).1 _ _ lt_g5).trans kg51
        replace kg70 := ((bcell b).1 _ _ lt_g7).trans kg70
        replace kg71 := ((bcell b).1 _ _ lt_g7).trans kg71
        replace lt_g4 := Nat.lt_of_lt_of_le lt_g4 b.size
        replace lt_g5 := Nat.lt_of_lt_of_le lt_g5 b.size
        replace lt_g7 := Nat.lt_of_lt_of_le lt_g7 b.size
        replace HR := Bx.mk (HR.out.below b)
        replace HY := Bx.mk (HY.out.below b)
        replace HSr := Bx.mk (HSr.out.below b)
        replace HLr := Bx.mk (HLr.out.below b)
        replace HB := Bx.mk (HB.out.below b)
        replace bw := bw.trans (b.mono bw.size)
        clear b
        go_wp2_with fail
        refine (HMSl.out _ _ _ (by exact HR.out)).mono ?_
        rintro e w29 ⟨rfl, b⟩
        replace kg40 := ((bcell b).1 _ _ lt_g4).trans kg40
        replace kg41 := ((bcell b).1 _ _ lt_g4).trans kg41
        replace kg50 := ((bcell b).1 _ _ lt_g5).trans kg50
        replace kg51 := ((bcell b).1 _ _ lt_g5).trans kg51
        replace kg70 := ((bcell b).1 _ _ lt_g7).trans kg70
        replace kg71 := ((bcell b).1 _ _ lt_g7).trans kg71
        replace lt_g4 := Nat.lt_of_lt_of_le lt_g4 b.size
        replace lt_g5 := Nat.lt_of_lt_of_le lt_g5 b.size
        replace lt_g7 := Nat.lt_of_lt_of_le lt_g7 b.size
        replace HR := Bx.mk (HR.out.below b)
        replace HY := Bx.mk (HY.out.below b)
        replace HSr := Bx.mk (HSr.out.below b)
        replace HLr := Bx.mk (HLr.out.below b)
        replace HB := Bx.mk (HB.out.below b)
        replace bw := bw.trans (b.mono bw.size)
        clear b
        go_wp2_with fail
        refine (HCP.out _ _ _ (by exact HR.out)).mono ?_
        rintro e w30 ⟨rfl, b⟩
        replace kg40 := ((bcell b).1 _ _ lt_g4).trans kg40
        replace kg41 := ((bcell b).1 _ _ lt_g4).trans kg41
        replace kg50 := ((bcell b).1 _ _ lt_g5).trans kg50
        replace kg51 := ((bcell b).1 _ _ lt_g5).trans kg51
        replace kg70 := ((bcell b).1 _ _ lt_g7).trans kg70
        replace kg71 := ((bcell b).1 _ _ lt_g7).trans kg71
        replace lt_g4 := Nat.lt_of_lt_of_le lt_g4 b.size
        replace lt_g5 := Nat.lt_of_lt_of_le lt_g5 b.size
        replace lt_g7 := Nat.lt_of_lt_of_le lt_g7 b.size
        replace HR := Bx.mk (HR.out.below b)
        replace HY := Bx.mk (HY.out.below b)
        replace HSr := Bx.mk (HSr.out.below b)
        replace HLr := Bx.mk (HLr.out.below b)
        replace HB := Bx.mk (HB.out.below b)
        replace bw := bw.trans (b.mono bw.size)
        clear b
        go_wp2_with fail
        refine (HTSl.out _ _ _ _ _ (by exact HR.out) (by exact HSr.out)).mono ?_
        rintro e w31 ⟨rfl, b⟩
        replace kg40 := ((bcell b).1 _ _ lt_g4).trans kg40
        replace kg41 := ((bcell b).1 _ _ lt_g4).trans kg41
        replace kg50 := ((bcell b).1 _ _ lt_g5).trans kg50
        replace kg51 := ((bcell b).1 _ _ lt_g5).trans kg51
        replace kg70 := ((bcell b).1 _ _ lt_g7).trans kg70
        replace kg71 := ((bcell b).1 _ _ lt_g7).trans kg71
        replace lt_g4 := Nat.lt_of_lt_of_le lt_g4 b.size
        replace lt_g5 := Nat.lt_of_lt_of_le lt_g5 b.size
        replace lt_g7 := Nat.lt_of_lt_of_le lt_g7 b.size
        replace HR := Bx.mk (HR.out.below b)
        replace HY := Bx.mk (HY.out.below b)
        replace HSr := Bx.mk (HSr.out.below b)
        replace HLr := Bx.mk (HLr.out.below b)
        replace HB := Bx.mk (HB.out.below b)
        replace bw := bw.trans (b.mono bw.size)
        clear b
        have HITY : Bx (∀ ys, ys ∈ L → ∀ A B c d W, IR W A r → IR W B ys → Calls Tryz.prog 14 #[.agg #[.int .i64 m, .slice A r.length c], .agg #[.int .i64 m, .slice B ys.length d]] W fun e w' => e = .returned (.bool true) ∧ Below W.heap.size W w') := ⟨fun ys hy A B c d W h1 h2 => by
          have h := HLm.out ys hy
          have := implIsTiling_any m m A B c d r ys W hm64.out hm64.out h1 h2
          rw [btw_tiles HROK.out h.1, h.2.2] at this
          exact this⟩
        have HHBY : Bx (∀ ys, ys ∈ L → ∀ A c W, IR W A ys → Calls Tryz.prog 16 #[.agg #[.int .i64 m, .slice A ys.length c], .int .i64 0] W fun e w' => e = .returned (.bool true) ∧ Below W.heap.size W w') := ⟨fun ys hy A c W h1 => by
          have h := HLm.out ys hy
          have := hasBeat_ok m A c ys 0 W h.1 h1 (by decide)
          rw [h.2.1] at this
          exact this⟩
        have HRHY : Bx (∀ A B c d W, IR W A y → IR W B y → Calls Tryz.prog 15 #[.agg #[.int .i64 m, .slice A y.length c], .agg #[.int .i64 m, .slice B y.length d]] W fun e w' => e = .returned (.bool true) ∧ Below W.heap.size W w') := ⟨fun A B c d W h1 h2 => by
          have := lawRhythms_any m m A B c d y y W h1 h2
          simpa using this⟩
        have HYL : Bx (y ∈ L) := ⟨List.mem_of_getElem? HL0.out⟩
        obtain ⟨gL, BL, cB, rfl, lt_gL, kl0, kl1, hirl⟩ := HLr.out 0 y HL0.out
        have kgL0 : w31.cell? ⟨gL, 0, none⟩ = some (.int .i64 m) := by simpa using kl0
        have kgL1 : w31.cell? ⟨gL, 1, none⟩ = some (.slice BL y.length cB) := by simpa using kl1
        have HY0 := Bx.mk hirl
        clear kl0 kl1 hirl
        go_upto_region 14 with (fail)
        have hB : Bx (Below w31.heap.size w31 w31.drew) := ⟨(Below.refl _ _).drew⟩
        have hB0 : Bx (Below w31.heap.size w31 w31) := ⟨Below.refl _ _⟩
        have kg40_d : w31.drew.cell? _ = _ := kg40
        have kg41_d : w31.drew.cell? _ = _ := kg41
        have kg50_d : w31.drew.cell? _ = _ := kg50
        have kg51_d : w31.drew.cell? _ = _ := kg51
        have kgL0_d : w31.drew.cell? _ = _ := kgL0
        have kgL1_d : w31.drew.cell? _ = _ := kgL1
        go_region_held3 (fun w' => w'.cell? ⟨g4, 0, none⟩ = some (.int .i64 m) ∧ w'.cell? ⟨g4, 1, none⟩ = some (.slice Ar r.length cr) ∧ w'.cell? ⟨g5, 0, none⟩ = some (.int .i64 m) ∧ w'.cell? ⟨g5, 1, none⟩ = some (.slice A5 y.length c5) ∧ w'.cell? ⟨gL, 0, none⟩ = some (.int .i64 m) ∧ w'.cell? ⟨gL, 1, none⟩ = some (.slice BL y.length cB) ∧ Bx (Below w31.heap.size w31 w'))
          ((refine (fun (hK : Bx (Below w31.heap.size w31 _)) => ⟨((bcell hK.out).1 _ _ lt_g4).trans kg40, ((bcell hK.out).1 _ _ lt_g4).trans kg41, ((bcell hK.out).1 _ _ lt_g5).trans kg50, ((bcell hK.out).1 _ _ lt_g5).trans kg51, ((bcell hK.out).1 _ _ lt_gL).trans kgL0, ((bcell hK.out).1 _ _ lt_gL).trans kgL1, hK⟩) ?_; (first | with_reducible assumption | with_reducible exact bx_alloc (by with_reducible assumption) _ | with_reducible exact bx_drew (by with_reducible assumption) | with_reducible exact bx_drew (bx_alloc (by with_reducible assumption) _))))
          (first
            | (go_at_call 14; refine (HITY.out y HYL.out _ _ _ _ _ (by exact HR.out.below (Bx.out (by (first | with_reducible assumption | with_reducible exact bx_alloc (by with_reducible assumption) _ | with_reducible exact bx_drew (by with_reducible assumption) | with_reducible exact bx_drew (bx_alloc (by with_reducible assumption) _))))) (by exact HY.out.below (Bx.out (by (first | with_reducible assumption | with_reducible exact bx_alloc (by with_reducible assumption) _ | with_reducible exact bx_drew (by with_reducible assumption) | with_reducible exact bx_drew (bx_alloc (by with_reducible assumption) _)))))).mono ?_; rintro e w32 ⟨rfl, bw32⟩; have hBw32 : Bx (Below w31.heap.size w31 w32) := bx_to (by (first | with_reducible assumption | with_reducible exact bx_alloc (by with_reducible assumption) _ | with_reducible exact bx_drew (by with_reducible assumption) | with_reducible exact bx_drew (bx_alloc (by with_reducible assumption) _))) bw32; have hzw32 := bx_size hBw32; have kg40_w32 := ((bcell hBw32.out).1 _ _ lt_g4).trans kg40; have kg41_w32 := ((bcell hBw32.out).1 _ _ lt_g4).trans kg41; have kg50_w32 := ((bcell hBw32.out).1 _ _ lt_g5).trans kg50; have kg51_w32 := ((bcell hBw32.out).1 _ _ lt_g5).trans kg51; have kgL0_w32 := ((bcell hBw32.out).1 _ _ lt_gL).trans kgL0; have kgL1_w32 := ((bcell hBw32.out).1 _ _ lt_gL).trans kgL1)
            | (go_at_call 15; refine (HRHY.out _ _ _ _ _ (by exact HY.out.below (Bx.out (by (first | with_reducible assumption | with_reducible exact bx_alloc (by with_reducible assumption) _ | with_reducible exact bx_drew (by with_reducible assumption) | with_reducible exact bx_drew (bx_alloc (by with_reducible assumption) _))))) (by exact HY0.out.below (Bx.out (by (first | with_reducible assumption | with_reducible exact bx_alloc (by with_reducible assumption) _ | with_reducible exact bx_drew (by with_reducible assumption) | with_reducible exact bx_drew (bx_alloc (by with_reducible assumption) _)))))).mono ?_; rintro e w33 ⟨rfl, bw33⟩; have hBw33 : Bx (Below w31.heap.size w31 w33) := bx_to (by (first | with_reducible assumption | with_reducible exact bx_alloc (by with_reducible assumption) _ | with_reducible exact bx_drew (by with_reducible assumption) | with_reducible exact bx_drew (bx_alloc (by with_reducible assumption) _))) bw33; have hzw33 := bx_size hBw33; have kg40_w33 := ((bcell hBw33.out).1 _ _ lt_g4).trans kg40; have kg41_w33 := ((bcell hBw33.out).1 _ _ lt_g4).trans kg41; have kg50_w33 := ((bcell hBw33.out).1 _ _ lt_g5).trans kg50; have kg51_w33 := ((bcell hBw33.out).1 _ _ lt_g5).trans kg51; have kgL0_w33 := ((bcell hBw33.out).1 _ _ lt_gL).trans kgL0; have kgL1_w33 := ((bcell hBw33.out).1 _ _ lt_gL).trans kgL1)
            | (go_at_call 16; refine (HHBY.out y HYL.out _ _ _ (by exact HY.out.below (Bx.out (by (first | with_reducible assumption | with_reducible exact bx_alloc (by with_reducible assumption) _ | with_reducible exact bx_drew (by with_reducible assumption) | with_reducible exact bx_drew (bx_alloc (by with_reducible assumption) _)))))).mono ?_; rintro e w34 ⟨rfl, bw34⟩; have hBw34 : Bx (Below w31.heap.size w31 w34) := bx_to (by (first | with_reducible assumption | with_reducible exact bx_alloc (by with_reducible assumption) _ | with_reducible exact bx_drew (by with_reducible assumption) | with_reducible exact bx_drew (bx_alloc (by with_reducible assumption) _))) bw34; have hzw34 := bx_size hBw34; have kg40_w34 := ((bcell hBw34.out).1 _ _ lt_g4).trans kg40; have kg41_w34 := ((bcell hBw34.out).1 _ _ lt_g4).trans kg41; have kg50_w34 := ((bcell hBw34.out).1 _ _ lt_g5).trans kg50; have kg51_w34 := ((bcell hBw34.out).1 _ _ lt_g5).trans kg51; have kgL0_w34 := ((bcell hBw34.out).1 _ _ lt_gL).trans kgL0; have kgL1_w34 := ((bcell hBw34.out).1 _ _ lt_gL).trans kgL1))
        have b := hBw34.out
        replace kg40 := ((bcell b).1 _ _ lt_g4).trans kg40
        replace kg41 := ((bcell b).1 _ _ lt_g4).trans kg41
        replace kg50 := ((bcell b).1 _ _ lt_g5).trans kg50
        replace kg51 := ((bcell b).1 _ _ lt_g5).trans kg51
        replace kg70 := ((bcell b).1 _ _ lt_g7).trans kg70
        replace kg71 := ((bcell b).1 _ _ lt_g7).trans kg71
        replace kgL0 := ((bcell b).1 _ _ lt_gL).trans kgL0
        replace kgL1 := ((bcell b).1 _ _ lt_gL).trans kgL1
        replace lt_g4 := Nat.lt_of_lt_of_le lt_g4 b.size
        replace lt_g5 := Nat.lt_of_lt_of_le lt_g5 b.size
        replace lt_g7 := Nat.lt_of_lt_of_le lt_g7 b.size
        replace lt_gL := Nat.lt_of_lt_of_le lt_gL b.size
        replace HR := Bx.mk (HR.out.below b)
        replace HY := Bx.mk (HY.out.below b)
        replace HSr := Bx.mk (HSr.out.below b)
        replace HLr := Bx.mk (HLr.out.below b)
        replace HY0 := Bx.mk (HY0.out.below b)
        replace HB := Bx.mk (HB.out.below b)
        replace bw := bw.trans (b.mono bw.size)
        clear b
        go_wp2_with fail
        clear kgL0 kgL1 HY0 hLg hLne
        go_loopw [113] (fun iv wr => ∃ k : Nat, k ≤ L.length ∧ iv = .int .i64 k ∧ Bx (Below w34.heap.size w34 wr)) (fun iv _ => L.length - (intOf iv).toNat)
        case atStart => exact ⟨0, by omega, rfl, ⟨Below.refl _ _⟩⟩
        case round =>
          obtain ⟨k, hk, rfl, HRr⟩ := hrel
          by_cases hlt : k < L.length
          · have hli : (k : Int) < (L.length : Int) := by omega
            obtain ⟨x, hx⟩ : ∃ x, L[k]? = some x := ⟨_, List.getElem?_eq_getElem hlt⟩
            have HXM := Bx.mk (HLm.out x (List.mem_of_getElem? hx))
            have HXL : Bx (x ∈ L) := ⟨List.mem_of_getElem? hx⟩
            have HXE := Bx.mk hx
            have bq := HRr.out
            obtain ⟨gL2, BX, cX, eL, lt_gL2, kr0, kr1, hirx⟩ := (HLr.out.below bq) k x hx
            injection eL with eL
            injection eL with eL
            subst eL
            have HXr := Bx.mk hirx
            have q40 := ((bcell bq).1 _ _ lt_g4).trans kg40
            have q41 := ((bcell bq).1 _ _ lt_g4).trans kg41
            have lt_gA := Nat.lt_of_lt_of_le lt_g4 bq.size
            have HR2 := Bx.mk (HR.out.below bq)
            have HL2 := Bx.mk (HLr.out.below bq)
            have bw := HRr.out
            clear hx hirx HRr bq
            have lt_gA : g4 < wr.heap.size := lt_gA
            have lt_g4w : g4 < wr.heap.size := lt_gA
            clear lt_gA
            obtain ⟨w35, hW⟩ : ∃ w35, w35 = wr.alloc (.cells #[.int .i64 m, .slice BX x.length cX] 26) := ⟨_, rfl⟩
            obtain ⟨gx, hg⟩ : ∃ gx, gx = wr.heap.size := ⟨_, rfl⟩
            have b : Below wr.heap.size wr w35 := by rw [hW]; exact below_alloc _ _
            have kgx0 : w35.cell? ⟨gx, 0, none⟩ = some (.int .i64 m) := by rw [hW, hg]; simp [go_sem]
            have kgx1 : w35.cell? ⟨gx, 1, none⟩ = some (.slice BX x.length cX) := by rw [hW, hg]; simp [go_sem]
            have lt_gx : gx < w35.heap.size := by rw [hW, hg]; simp
            replace q40 := ((bcell b).1 _ _ lt_g4w).trans q40
            replace q41 := ((bcell b).1 _ _ lt_g4w).trans q41
            replace lt_g4w := Nat.lt_of_lt_of_le lt_g4w b.size
            replace HXr := Bx.mk (HXr.out.below b)
            replace HR2 := Bx.mk (HR2.out.below b)
            replace HL2 := Bx.mk (HL2.out.below b)
            replace bw := bw.trans (b.mono bw.size)
            clear b
            go_upto_region 19 with (fail)
            rw [← hW, ← hg]
            clear hW hg
            have HFM : Bx (∀ ys, rhOk m ys = true → ∀ A c W, IR W A ys → Calls Tryz.prog 17 #[.agg #[.int .i64 m, .slice A ys.length c]] W fun e w' => e = .returned (.string (fmT m ys)) ∧ Below W.heap.size W w') := ⟨fun ys hy A c W h => format_any m A c ys W hn12 hy h⟩
            have HPE : Bx (m > 1 → ∀ A B c d W, IR W A r → IR W B x → Calls Tryz.prog 18 #[.agg #[.int .i64 m, .slice A r.length c], .agg #[.int .i64 m, .slice B x.length d]] W fun e w' => e = .returned (.bool true) ∧ Below W.heap.size W w') := ⟨fun h A B c d W h1 h2 => by
              have := implPerTil_any m m A B c d r x W hm64.out hm64.out h1 h2
              unfold perTil at this
              rw [btw_tiles HROK.out HXM.out.1, HXM.out.2.2, tile_per (by omega) hn12 HROK.out HXM.out.1 HXM.out.2.2] at this
              exact this⟩
            have HXK : Bx (rhOk m x = true) := ⟨HXM.out.1⟩
            by_cases hm1 : m > 1
            · skip
              have hmg : (m : Int) > 1 := by omega
              have HPEl := Bx.mk (HPE.out hm1)
              clear HPE hm1
              by_cases hk0 : k = 0
              · as_aux_lemma =>
                have lt_g4 := lt_g4w
                have hkg : ¬ ((k : Int) > 0) := by omega
                have hB : Bx (Below w35.heap.size w35 w35.drew) := ⟨(Below.refl _ _).drew⟩
                have hB0 : Bx (Below w35.heap.size w35 w35) := ⟨Below.refl _ _⟩
                have q40_d : w35.drew.cell? _ = _ := q40
                have q41_d : w35.drew.cell? _ = _ := q41
                have kgx0_d : w35.drew.cell? _ = _ := kgx0
                have kgx1_d : w35.drew.cell? _ = _ := kgx1
                refine wp_region_held_drew (S := fun w' => w'.cell? ⟨g4, 0, none⟩ = some (.int .i64 m) ∧ w'.cell? ⟨g4, 1, none⟩ = some (.slice Ar r.length cr) ∧ w'.cell? ⟨gx, 0, none⟩ = some (.int .i64 m) ∧ w'.cell? ⟨gx, 1, none⟩ = some (.slice BX x.length cX) ∧ Bx (Below w35.heap.size w35 w')) (by kernel_rfl) ?hS2000 (fun hHeld => ?rest2000)
                case hS2000 => (try dsimp only); (refine (fun (hK : Bx (Below w35.heap.size w35 _)) => ⟨((bcell hK.out).1 _ _ lt_g4).trans q40, ((bcell hK.out).1 _ _ lt_g4).trans q41, ((bcell hK.out).1 _ _ lt_gx).trans kgx0, ((bcell hK.out).1 _ _ lt_gx).trans kgx1, hK⟩) ?_; (first | with_reducible assumption | with_reducible exact bx_alloc (by with_reducible assumption) _ | with_reducible exact bx_drew (by with_reducible assumption) | with_reducible exact bx_drew (bx_alloc (by with_reducible assumption) _)))
                case rest2000 =>
                refine wpAnyH_take (i := 0) (v := ?v2001) (at_list rfl) (by kernel_rfl) (by kernel_rfl) (by kernel_rfl) (fun _ _ _ h => h) (Or.inl ⟨by rfl, ?hy2001⟩) (by assumption) ?rest2001
                case hy2001 => intro w hSw; (try dsimp only at hSw); go_simp; try (with_reducible rfl)
                case rest2001 =>
                try simp only [Act.put, List.setIfInBounds_toArray, List.set_cons_zero, List.set_cons_succ]
                refine wpAnyH_take (i := 1) (v := ?v2002) (at_list rfl) (by kernel_rfl) (by kernel_rfl) (by kernel_rfl) (fun _ _ _ h => h) (Or.inl ⟨by rfl, ?hy2002⟩) (by assumption) ?rest2002
                case hy2002 => intro w hSw; (try dsimp only at hSw); go_simp; try (with_reducible rfl)
                case rest2002 =>
                try simp only [Act.put, List.setIfInBounds_toArray, List.set_cons_zero, List.set_cons_succ]
                refine wpAnyH_ready (rs := [2]) (by kernel_rfl) (by simp) ?_
                refine AllReadyH.cons (at_list rfl) (fun K hK => ?_) AllReadyH.nil
                go_simp
                go_at_call 14; refine (HITY.out x HXL.out _ _ _ _ _ (by exact HR2.out.below (Bx.out (by (first | with_reducible assumption | with_reducible exact bx_alloc (by with_reducible assumption) _ | with_reducible exact bx_drew (by with_reducible assumption) | with_reducible exact bx_drew (bx_alloc (by with_reducible assumption) _))))) (by exact HXr.out.below (Bx.out (by (first | with_reducible assumption | with_reducible exact bx_alloc (by with_reducible assumption) _ | with_reducible exact bx_drew (by with_reducible assumption) | with_reducible exact bx_drew (bx_alloc (by with_reducible assumption) _)))))).mono ?_; rintro e w36 ⟨rfl, bw36⟩; have hBw36 : Bx (Below w35.heap.size w35 w36) := bx_to (by (first | with_reducible assumption | with_reducible exact bx_alloc (by with_reducible assumption) _ | with_reducible exact bx_drew (by with_reducible assumption) | with_reducible exact bx_drew (bx_alloc (by with_reducible assumption) _))) bw36; have hzw36 := bx_size hBw36; have q40_w36 := ((bcell hBw36.out).1 _ _ lt_g4).trans q40; have q41_w36 := ((bcell hBw36.out).1 _ _ lt_g4).trans q41; have kgx0_w36 := ((bcell hBw36.out).1 _ _ lt_gx).trans kgx0; have kgx1_w36 := ((bcell hBw36.out).1 _ _ lt_gx).trans kgx1
                refine hK.out _ _ ?hS2003 (fun hHeld => ?rest2003)
                case hS2003 => (try dsimp only); (refine (fun (hK : Bx (Below w35.heap.size w35 _)) => ⟨((bcell hK.out).1 _ _ lt_g4).trans q40, ((bcell hK.out).1 _ _ lt_g4).trans q41, ((bcell hK.out).1 _ _ lt_gx).trans kgx0, ((bcell hK.out).1 _ _ lt_gx).trans kgx1, hK⟩) ?_; (first | with_reducible assumption | with_reducible exact bx_alloc (by with_reducible assumption) _ | with_reducible exact bx_drew (by with_reducible assumption) | with_reducible exact bx_drew (bx_alloc (by with_reducible assumption) _)))
                case rest2003 =>
                clear hK K
                try simp only [Act.put, List.setIfInBounds_toArray, List.set_cons_zero, List.set_cons_succ]
                refine wpAnyH_take (i := 3) (v := ?v2004) (at_list rfl) (by kernel_rfl) (by kernel_rfl) (by kernel_rfl) (fun _ _ _ h => h) (Or.inl ⟨by rfl, ?hy2004⟩) (by assumption) ?rest2004
                case hy2004 => intro w hSw; (try dsimp only at hSw); go_simp; try (with_reducible rfl)
                case rest2004 =>
                try simp only [Act.put, List.setIfInBounds_toArray, List.set_cons_zero, List.set_cons_succ]
                refine wpAnyH_take (i := 4) (v := ?v2005) (at_list rfl) (by kernel_rfl) (by kernel_rfl) (by kernel_rfl) (fun _ _ _ h => h) (Or.inl ⟨by rfl, ?hy2005⟩) (by assumption) ?rest2005
                case hy2005 => intro w hSw; (try dsimp only at hSw); go_simp; try (with_reducible rfl)
                case rest2005 =>
                try simp only [Act.put, List.setIfInBounds_toArray, List.set_cons_zero, List.set_cons_succ]
                refine wpAnyH_take (i := 5) (v := ?v2006) (at_list rfl) (by kernel_rfl) (by kernel_rfl) (by kernel_rfl) (fun _ _ _ h => h) (Or.inl ⟨by rfl, ?hy2006⟩) (by assumption) ?rest2006
                case hy2006 => intro w hSw; (try dsimp only at hSw); go_simp; try (with_reducible rfl)
                case rest2006 =>
                try simp only [Act.put, List.setIfInBounds_toArray, List.set_cons_zero, List.set_cons_succ]
                refine wpAnyH_ready (rs := [6]) (by kernel_rfl) (by simp) ?_
                refine AllReadyH.cons (at_list rfl) (fun K hK => ?_) AllReadyH.nil
                go_simp
                go_at_call 16; refine (HHBY.out x HXL.out _ _ _ (by exact HXr.out.below (Bx.out (by (first | with_reducible assumption | with_reducible exact bx_alloc (by with_reducible assumption) _ | with_reducible exact bx_drew (by with_reducible assumption) | with_reducible exact bx_drew (bx_alloc (by with_reducible assumption) _)))))).mono ?_; rintro e w37 ⟨rfl, bw37⟩; have hBw37 : Bx (Below w35.heap.size w35 w37) := bx_to (by (first | with_reducible assumption | with_reducible exact bx_alloc (by with_reducible assumption) _ | with_reducible exact bx_drew (by with_reducible assumption) | with_reducible exact bx_drew (bx_alloc (by with_reducible assumption) _))) bw37; have hzw37 := bx_size hBw37; have q40_w37 := ((bcell hBw37.out).1 _ _ lt_g4).trans q40; have q41_w37 := ((bcell hBw37.out).1 _ _ lt_g4).trans q41; have kgx0_w37 := ((bcell hBw37.out).1 _ _ lt_gx).trans kgx0; have kgx1_w37 := ((bcell hBw37.out).1 _ _ lt_gx).trans kgx1
                refine hK.out _ _ ?hS2007 (fun hHeld => ?rest2007)
                case hS2007 => (try dsimp only); (refine (fun (hK : Bx (Below w35.heap.size w35 _)) => ⟨((bcell hK.out).1 _ _ lt_g4).trans q40, ((bcell hK.out).1 _ _ lt_g4).trans q41, ((bcell hK.out).1 _ _ lt_gx).trans kgx0, ((bcell hK.out).1 _ _ lt_gx).trans kgx1, hK⟩) ?_; (first | with_reducible assumption | with_reducible exact bx_alloc (by with_reducible assumption) _ | with_reducible exact bx_drew (by with_reducible assumption) | with_reducible exact bx_drew (bx_alloc (by with_reducible assumption) _)))
                case rest2007 =>
                clear hK K
                try simp only [Act.put, List.setIfInBounds_toArray, List.set_cons_zero, List.set_cons_succ]
                refine wpAnyH_take (i := 7) (v := ?v2008) (at_list rfl) (by kernel_rfl) (by kernel_rfl) (by kernel_rfl) (fun _ _ _ h => h) (Or.inl ⟨by rfl, ?hy2008⟩) (by assumption) ?rest2008
                case hy2008 => intro w hSw; (try dsimp only at hSw); go_simp; try (with_reducible rfl)
                case rest2008 =>
                try simp only [Act.put, List.setIfInBounds_toArray, List.set_cons_zero, List.set_cons_succ]
                refine wpAnyH_take (i := 8) (v := ?v2009) (at_list rfl) (by kernel_rfl) (by kernel_rfl) (by kernel_rfl) (fun _ _ _ h => h) (Or.inl ⟨by rfl, ?hy2009⟩) (by assumption) ?rest2009
                case hy2009 => intro w hSw; (try dsimp only at hSw); go_simp; try (with_reducible rfl)
                case rest2009 =>
                try simp only [Act.put, List.setIfInBounds_toArray, List.set_cons_zero, List.set_cons_succ]
                refine wpAnyH_take (i := 9) (v := ?v2010) (at_list rfl) (by kernel_rfl) (by kernel_rfl) (by kernel_rfl) (fun _ _ _ h => h) (Or.inl ⟨by rfl, ?hy2010⟩) (by assumption) ?rest2010
                case hy2010 => intro w hSw; (try dsimp only at hSw); go_simp; try (with_reducible rfl)
                case rest2010 =>
                try simp only [Act.put, List.setIfInBounds_toArray, List.set_cons_zero, List.set_cons_succ]
                refine wpAnyH_take (i := 10) (v := ?v2011) (at_list rfl) (by kernel_rfl) (by kernel_rfl) (by kernel_rfl) (fun _ _ _ h => h) (Or.inl ⟨by rfl, ?hy2011⟩) (by assumption) ?rest2011
                case hy2011 => intro w hSw; (try dsimp only at hSw); go_simp; try (with_reducible rfl)
                case rest2011 =>
                try simp only [Act.put, List.setIfInBounds_toArray, List.set_cons_zero, List.set_cons_succ]
                refine wpAnyH_take (i := 11) (v := .bool false) (at_list rfl) (by kernel_rfl) (by kernel_rfl) (by kernel_rfl) (fun _ _ _ h => h) (Or.inl ⟨by rfl, ?hy2012⟩) (by assumption) ?rest2012
                case hy2012 => intro w hSw; (try dsimp only at hSw); go_simp; try (with_reducible rfl)
                case rest2012 =>
                try simp only [Act.put, List.setIfInBounds_toArray, List.set_cons_zero, List.set_cons_succ]
                refine wpAnyH_take (i := 12) (v := .bool false) (at_list rfl) (by kernel_rfl) (by kernel_rfl) (by kernel_rfl) (fun _ _ _ h => h) (Or.inl ⟨by rfl, ?hy2013⟩) (by assumption) ?rest2013
                case hy2013 => intro w hSw; (try dsimp only at hSw); go_simp; try (with_reducible rfl)
                case rest2013 =>
                try simp only [Act.put, List.setIfInBounds_toArray, List.set_cons_zero, List.set_cons_succ]
                refine wpAnyH_take (i := 13) (v := undef) (at_list rfl) (by kernel_rfl) (by kernel_rfl) (by kernel_rfl) (fun _ _ _ h => h) (Or.inr ⟨by rfl, rfl⟩) (by assumption) ?rest2014
                case rest2014 =>
                try simp only [Act.put, List.setIfInBounds_toArray, List.set_cons_zero, List.set_cons_succ]
                refine wpAnyH_take (i := 14) (v := undef) (at_list rfl) (by kernel_rfl) (by kernel_rfl) (by kernel_rfl) (fun _ _ _ h => h) (Or.inr ⟨by rfl, rfl⟩) (by assumption) ?rest2015
                case rest2015 =>
                try simp only [Act.put, List.setIfInBounds_toArray, List.set_cons_zero, List.set_cons_succ]
                refine wpAnyH_take (i := 15) (v := undef) (at_list rfl) (by kernel_rfl) (by kernel_rfl) (by kernel_rfl) (fun _ _ _ h => h) (Or.inr ⟨by rfl, rfl⟩) (by assumption) ?rest2016
                case rest2016 =>
                try simp only [Act.put, List.setIfInBounds_toArray, List.set_cons_zero, List.set_cons_succ]
                refine wpAnyH_take (i := 16) (v := undef) (at_list rfl) (by kernel_rfl) (by kernel_rfl) (by kernel_rfl) (fun _ _ _ h => h) (Or.inr ⟨by rfl, rfl⟩) (by assumption) ?rest2017
                case rest2017 =>
                try simp only [Act.put, List.setIfInBounds_toArray, List.set_cons_zero, List.set_cons_succ]
                refine wpAnyH_take (i := 17) (v := undef) (at_list rfl) (by kernel_rfl) (by kernel_rfl) (by kernel_rfl) (fun _ _ _ h => h) (Or.inr ⟨by rfl, rfl⟩) (by assumption) ?rest2018
                case rest2018 =>
                try simp only [Act.put, List.setIfInBounds_toArray, List.set_cons_zero, List.set_cons_succ]
                refine wpAnyH_take (i := 18) (v := undef) (at_list rfl) (by kernel_rfl) (by kernel_rfl) (by kernel_rfl) (fun _ _ _ h => h) (Or.inr ⟨by rfl, rfl⟩) (by assumption) ?rest2019
                case rest2019 =>
                try simp only [Act.put, List.setIfInBounds_toArray, List.set_cons_zero, List.set_cons_succ]
                refine wpAnyH_take (i := 19) (v := undef) (at_list rfl) (by kernel_rfl) (by kernel_rfl) (by kernel_rfl) (fun _ _ _ h => h) (Or.inr ⟨by rfl, rfl⟩) (by assumption) ?rest2020
                case rest2020 =>
                try simp only [Act.put, List.setIfInBounds_toArray, List.set_cons_zero, List.set_cons_succ]
                refine wpAnyH_take (i := 20) (v := undef) (at_list rfl) (by kernel_rfl) (by kernel_rfl) (by kernel_rfl) (fun _ _ _ h => h) (Or.inr ⟨by rfl, rfl⟩) (by assumption) ?rest2021
                case rest2021 =>
                try simp only [Act.put, List.setIfInBounds_toArray, List.set_cons_zero, List.set_cons_succ]
                refine wpAnyH_take (i := 21) (v := undef) (at_list rfl) (by kernel_rfl) (by kernel_rfl) (by kernel_rfl) (fun _ _ _ h => h) (Or.inr ⟨by rfl, rfl⟩) (by assumption) ?rest2022
                case rest2022 =>
                try simp only [Act.put, List.setIfInBounds_toArray, List.set_cons_zero, List.set_cons_succ]
                refine wpAnyH_take (i := 22) (v := ?v2023) (at_list rfl) (by kernel_rfl) (by kernel_rfl) (by kernel_rfl) (fun _ _ _ h => h) (Or.inl ⟨by rfl, ?hy2023⟩) (by assumption) ?rest2023
                case hy2023 => intro w hSw; (try dsimp only at hSw); go_simp; try (with_reducible rfl)
                case rest2023 =>
                try simp only [Act.put, List.setIfInBounds_toArray, List.set_cons_zero, List.set_cons_succ]
                refine wpAnyH_take (i := 23) (v := ?v2024) (at_list rfl) (by kernel_rfl) (by kernel_rfl) (by kernel_rfl) (fun _ _ _ h => h) (Or.inl ⟨by rfl, ?hy2024⟩) (by assumption) ?rest2024
                case hy2024 => intro w hSw; (try dsimp only at hSw); go_simp; try (with_reducible rfl)
                case rest2024 =>
                try simp only [Act.put, List.setIfInBounds_toArray, List.set_cons_zero, List.set_cons_succ]
                refine wpAnyH_take (i := 24) (v := ?v2025) (at_list rfl) (by kernel_rfl) (by kernel_rfl) (by kernel_rfl) (fun _ _ _ h => h) (Or.inl ⟨by rfl, ?hy2025⟩) (by assumption) ?rest2025
                case hy2025 => intro w hSw; (try dsimp only at hSw); go_simp; try (with_reducible rfl)
                case rest2025 =>
                try simp only [Act.put, List.setIfInBounds_toArray, List.set_cons_zero, List.set_cons_succ]
                refine wpAnyH_take (i := 25) (v := ?v2026) (at_list rfl) (by kernel_rfl) (by kernel_rfl) (by kernel_rfl) (fun _ _ _ h => h) (Or.inl ⟨by rfl, ?hy2026⟩) (by assumption) ?rest2026
                case hy2026 => intro w hSw; (try dsimp only at hSw); go_simp; try (with_reducible rfl)
                case rest2026 =>
                try simp only [Act.put, List.setIfInBounds_toArray, List.set_cons_zero, List.set_cons_succ]
                refine wpAnyH_take (i := 26) (v := .bool true) (at_list rfl) (by kernel_rfl) (by kernel_rfl) (by kernel_rfl) (fun _ _ _ h => h) (Or.inl ⟨by rfl, ?hy2027⟩) (by assumption) ?rest2027
                case hy2027 => intro w hSw; (try dsimp only at hSw); go_simp; try (with_reducible rfl)
                case rest2027 =>
                try simp only [Act.put, List.setIfInBounds_toArray, List.set_cons_zero, List.set_cons_succ]
                refine wpAnyH_take (i := 27) (v := .bool true) (at_list rfl) (by kernel_rfl) (by kernel_rfl) (by kernel_rfl) (fun _ _ _ h => h) (Or.inl ⟨by rfl, ?hy2028⟩) (by assumption) ?rest2028
                case hy2028 => intro w hSw; (try dsimp only at hSw); go_simp; try (with_reducible rfl)
                case rest2028 =>
                try simp only [Act.put, List.setIfInBounds_toArray, List.set_cons_zero, List.set_cons_succ]
                refine wpAnyH_take (i := 28) (v := ?v2029) (at_list rfl) (by kernel_rfl) (by kernel_rfl) (by kernel_rfl) (fun _ _ _ h => h) (Or.inl ⟨by rfl, ?hy2029⟩) (by assumption) ?rest2029
                case hy2029 => intro w hSw; (try dsimp only at hSw); go_simp; try (with_reducible rfl)
                case rest2029 =>
                try simp only [Act.put, List.setIfInBounds_toArray, List.set_cons_zero, List.set_cons_succ]
                refine wpAnyH_take (i := 29) (v := ?v2030) (at_list rfl) (by kernel_rfl) (by kernel_rfl) (by kernel_rfl) (fun _ _ _ h => h) (Or.inl ⟨by rfl, ?hy2030⟩) (by assumption) ?rest2030
                case hy2030 => intro w hSw; (try dsimp only at hSw); go_simp; try (with_reducible rfl)
                case rest2030 =>
                try simp only [Act.put, List.setIfInBounds_toArray, List.set_cons_zero, List.set_cons_succ]
                refine wpAnyH_ready (rs := [30]) (by kernel_rfl) (by simp) ?_
                refine AllReadyH.cons (at_list rfl) (fun K hK => ?_) AllReadyH.nil
                go_simp
                go_at_call 18; refine (HPEl.out _ _ _ _ _ (by exact HR2.out.below (Bx.out (by (first | with_reducible assumption | with_reducible exact bx_alloc (by with_reducible assumption) _ | with_reducible exact bx_drew (by with_reducible assumption) | with_reducible exact bx_drew (bx_alloc (by with_reducible assumption) _))))) (by exact HXr.out.below (Bx.out (by (first | with_reducible assumption | with_reducible exact bx_alloc (by with_reducible assumption) _ | with_reducible exact bx_drew (by with_reducible assumption) | with_reducible exact bx_drew (bx_alloc (by with_reducible assumption) _)))))).mono ?_; rintro e w38 ⟨rfl, bw38⟩; have hBw38 : Bx (Below w35.heap.size w35 w38) := bx_to (by (first | with_reducible assumption | with_reducible exact bx_alloc (by with_reducible assumption) _ | with_reducible exact bx_drew (by with_reducible assumption) | with_reducible exact bx_drew (bx_alloc (by with_reducible assumption) _))) bw38; have hzw38 := bx_size hBw38; have q40_w38 := ((bcell hBw38.out).1 _ _ lt_g4).trans q40; have q41_w38 := ((bcell hBw38.out).1 _ _ lt_g4).trans q41; have kgx0_w38 := ((bcell hBw38.out).1 _ _ lt_gx).trans kgx0; have kgx1_w38 := ((bcell hBw38.out).1 _ _ lt_gx).trans kgx1
                refine hK.out _ _ ?hS2031 (fun hHeld => ?rest2031)
                case hS2031 => (try dsimp only); (refine (fun (hK : Bx (Below w35.heap.size w35 _)) => ⟨((bcell hK.out).1 _ _ lt_g4).trans q40, ((bcell hK.out).1 _ _ lt_g4).trans q41, ((bcell hK.out).1 _ _ lt_gx).trans kgx0, ((bcell hK.out).1 _ _ lt_gx).trans kgx1, hK⟩) ?_; (first | with_reducible assumption | with_reducible exact bx_alloc (by with_reducible assumption) _ | with_reducible exact bx_drew (by with_reducible assumption) | with_reducible exact bx_drew (bx_alloc (by with_reducible assumption) _)))
                case rest2031 =>
                clear hK K
                try simp only [Act.put, List.setIfInBounds_toArray, List.set_cons_zero, List.set_cons_succ]
                refine wpAnyH_take (i := 31) (v := ?v2032) (at_list rfl) (by kernel_rfl) (by kernel_rfl) (by kernel_rfl) (fun _ _ _ h => h) (Or.inl ⟨by rfl, ?hy2032⟩) (by assumption) ?rest2032
                case hy2032 => intro w hSw; (try dsimp only at hSw); go_simp; try (with_reducible rfl)
                case rest2032 =>
                try simp only [Act.put, List.setIfInBounds_toArray, List.set_cons_zero, List.set_cons_succ]
                refine wpAnyH_take (i := 32) (v := ?v2033) (at_list rfl) (by kernel_rfl) (by kernel_rfl) (by kernel_rfl) (fun _ _ _ h => h) (Or.inl ⟨by rfl, ?hy2033⟩) (by assumption) ?rest2033
                case hy2033 => intro w hSw; (try dsimp only at hSw); go_simp; try (with_reducible rfl)
                case rest2033 =>
                try simp only [Act.put, List.setIfInBounds_toArray, List.set_cons_zero, List.set_cons_succ]
                refine wpAnyH_take (i := 33) (v := ?v2034) (at_list rfl) (by kernel_rfl) (by kernel_rfl) (by kernel_rfl) (fun _ _ _ h => h) (Or.inl ⟨by rfl, ?hy2034⟩) (by assumption) ?rest2034
                case hy2034 => intro w hSw; (try dsimp only at hSw); go_simp; try (with_reducible rfl)
                case rest2034 =>
                try simp only [Act.put, List.setIfInBounds_toArray, List.set_cons_zero, List.set_cons_succ]
                refine wpAnyH_done (by kernel_rfl) ?_ _
                have b := hBw38.out
                replace q40 := ((bcell b).1 _ _ lt_g4w).trans q40
                replace q41 := ((bcell b).1 _ _ lt_g4w).trans q41
                replace kgx0 := ((bcell b).1 _ _ lt_gx).trans kgx0
                replace kgx1 := ((bcell b).1 _ _ lt_gx).trans kgx1
                replace lt_g4w := Nat.lt_of_lt_of_le lt_g4w b.size
                replace lt_gx := Nat.lt_of_lt_of_le lt_gx b.size
                replace HXr := Bx.mk (HXr.out.below b)
                replace HR2 := Bx.mk (HR2.out.below b)
                replace HL2 := Bx.mk (HL2.out.below b)
                replace bw := bw.trans (b.mono bw.size)
                clear b
                have HRF := Bx.mk bw
                clear bw
                go_wp2_with fail
                go_roundw
                case rel => exact ⟨k + 1, by omega, by go_num, HRF⟩
                case measure => simp [intOf]; omega
              · as_aux_lemma =>
                have lt_g4 := lt_g4w
                obtain ⟨j, hj⟩ : ∃ j, j + 1 = k := ⟨k - 1, by omega⟩
                have hkg : (k : Int) > 0 := by omega
                have hkj : (k : Int) - 1 = (j : Int) := by omega
                have hjl : (j : Int) < (L.length : Int) := by omega
                have hjw : IntKind.i64.wrap (j : Int) = (j : Int) := IntWalk.i64_in _ (by omega)
                have hj0 : (0 : Int) ≤ (j : Int) := by omega
                obtain ⟨x0, hx0⟩ : ∃ x0, L[j]? = some x0 := ⟨_, List.getElem?_eq_getElem (by omega)⟩
                have HCMP := HORD.out j x0 x hx0 (by rw [hj]; exact HXE.out)
                have HX0K : Bx (rhOk m x0 = true) := ⟨(HLm.out x0 (List.mem_of_getElem? hx0)).1⟩
                obtain ⟨gL3, B0, cB0, eL, lt_gP, kp0, kp1, hir0⟩ := HL2.out j x0 hx0
                injection eL with eL
                injection eL with eL
                subst eL
                have HX0r := Bx.mk hir0
                have hkp : 0 < k := by omega
                obtain ⟨T1, hT1⟩ : ∃ T1, T1 = fmT m x0 := ⟨_, rfl⟩
                obtain ⟨T2, hT2⟩ : ∃ T2, T2 = fmT m x := ⟨_, rfl⟩
                have HF1 : Bx (∀ A c W, IR W A x0 → Calls Tryz.prog 17 #[.agg #[.int .i64 m, .slice A x0.length c]] W fun e w' => e = .returned (.string T1) ∧ Below W.heap.size W w') := ⟨fun A c W h => by rw [hT1]; exact HFM.out x0 HX0K.out A c W h⟩
                have HF2 : Bx (∀ A c W, IR W A x → Calls Tryz.prog 17 #[.agg #[.int .i64 m, .slice A x.length c]] W fun e w' => e = .returned (.string T2) ∧ Below W.heap.size W w') := ⟨fun A c W h => by rw [hT2]; exact HFM.out x HXK.out A c W h⟩
                rw [← hT1, ← hT2] at HCMP
                clear hj hx0 hir0 hT1 hT2 HFM
                have lt_gL := lt_gP
                have hB : Bx (Below w35.heap.size w35 w35.drew) := ⟨(Below.refl _ _).drew⟩
                have hB0 : Bx (Below w35.heap.size w35 w35) := ⟨Below.refl _ _⟩
                have q40_d : w35.drew.cell? _ = _ := q40
                have q41_d : w35.drew.cell? _ = _ := q41
                have kgx0_d : w35.drew.cell? _ = _ := kgx0
                have kgx1_d : w35.drew.cell? _ = _ := kgx1
                have kp0_d : w35.drew.cell? _ = _ := kp0
                have kp1_d : w35.drew.cell? _ = _ := kp1
                refine wp_region_held_drew (S := fun w' => w'.cell? ⟨g4, 0, none⟩ = some (.int .i64 m) ∧ w'.cell? ⟨g4, 1, none⟩ = some (.slice Ar r.length cr) ∧ w'.cell? ⟨gx, 0, none⟩ = some (.int .i64 m) ∧ w'.cell? ⟨gx, 1, none⟩ = some (.slice BX x.length cX) ∧ w'.cell? ⟨gL, j * 2, none⟩ = some (.int .i64 m) ∧ w'.cell? ⟨gL, j * 2 + 1, none⟩ = some (.slice B0 x0.length cB0) ∧ Bx (Below w35.heap.size w35 w')) (by kernel_rfl) ?hS3000 (fun hHeld => ?rest3000)
                case hS3000 => (try dsimp only); (refine (fun (hK : Bx (Below w35.heap.size w35 _)) => ⟨((bcell hK.out).1 _ _ lt_g4).trans q40, ((bcell hK.out).1 _ _ lt_g4).trans q41, ((bcell hK.out).1 _ _ lt_gx).trans kgx0, ((bcell hK.out).1 _ _ lt_gx).trans kgx1, ((bcell hK.out).1 _ _ lt_gL).trans kp0, ((bcell hK.out).1 _ _ lt_gL).trans kp1, hK⟩) ?_; (first | with_reducible assumption | with_reducible exact bx_alloc (by with_reducible assumption) _ | with_reducible exact bx_drew (by with_reducible assumption) | with_reducible exact bx_drew (bx_alloc (by with_reducible assumption) _)))
                case rest3000 =>
                refine wpAnyH_take (i := 0) (v := ?v3001) (at_list rfl) (by kernel_rfl) (by kernel_rfl) (by kernel_rfl) (fun _ _ _ h => h) (Or.inl ⟨by rfl, ?hy3001⟩) (by assumption) ?rest3001
                case hy3001 => intro w hSw; (try dsimp only at hSw); go_simp; try (with_reducible rfl)
                case rest3001 =>
                try simp only [Act.put, List.setIfInBounds_toArray, List.set_cons_zero, List.set_cons_succ]
                refine wpAnyH_take (i := 1) (v := ?v3002) (at_list rfl) (by kernel_rfl) (by kernel_rfl) (by kernel_rfl) (fun _ _ _ h => h) (Or.inl ⟨by rfl, ?hy3002⟩) (by assumption) ?rest3002
                case hy3002 => intro w hSw; (try dsimp only at hSw); go_simp; try (with_reducible rfl)
                case rest3002 =>
                try simp only [Act.put, List.setIfInBounds_toArray, List.set_cons_zero, List.set_cons_succ]
                refine wpAnyH_ready (rs := [2]) (by kernel_rfl) (by simp) ?_
                refine AllReadyH.cons (at_list rfl) (fun K hK => ?_) AllReadyH.nil
                go_simp
                go_at_call 14; refine (HITY.out x HXL.out _ _ _ _ _ (by exact HR2.out.below (Bx.out (by (first | with_reducible assumption | with_reducible exact bx_alloc (by with_reducible assumption) _ | with_reducible exact bx_drew (by with_reducible assumption) | with_reducible exact bx_drew (bx_alloc (by with_reducible assumption) _))))) (by exact HXr.out.below (Bx.out (by (first | with_reducible assumption | with_reducible exact bx_alloc (by with_reducible assumption) _ | with_reducible exact bx_drew (by with_reducible assumption) | with_reducible exact bx_drew (bx_alloc (by with_reducible assumption) _)))))).mono ?_; rintro e w39 ⟨rfl, bw39⟩; have hBw39 : Bx (Below w35.heap.size w35 w39) := bx_to (by (first | with_reducible assumption | with_reducible exact bx_alloc (by with_reducible assumption) _ | with_reducible exact bx_drew (by with_reducible assumption) | with_reducible exact bx_drew (bx_alloc (by with_reducible assumption) _))) bw39; have hzw39 := bx_size hBw39; have q40_w39 := ((bcell hBw39.out).1 _ _ lt_g4).trans q40; have q41_w39 := ((bcell hBw39.out).1 _ _ lt_g4).trans q41; have kgx0_w39 := ((bcell hBw39.out).1 _ _ lt_gx).trans kgx0; have kgx1_w39 := ((bcell hBw39.out).1 _ _ lt_gx).trans kgx1; have kp0_w39 := ((bcell hBw39.out).1 _ _ lt_gL).trans kp0; have kp1_w39 := ((bcell hBw39.out).1 _ _ lt_gL).trans kp1
                refine hK.out _ _ ?hS3003 (fun hHeld => ?rest3003)
                case hS3003 => (try dsimp only); (refine (fun (hK : Bx (Below w35.heap.size w35 _)) => ⟨((bcell hK.out).1 _ _ lt_g4).trans q40, ((bcell hK.out).1 _ _ lt_g4).trans q41, ((bcell hK.out).1 _ _ lt_gx).trans kgx0, ((bcell hK.out).1 _ _ lt_gx).trans kgx1, ((bcell hK.out).1 _ _ lt_gL).trans kp0, ((bcell hK.out).1 _ _ lt_gL).trans kp1, hK⟩) ?_; (first | with_reducible assumption | with_reducible exact bx_alloc (by with_reducible assumption) _ | with_reducible exact bx_drew (by with_reducible assumption) | with_reducible exact bx_drew (bx_alloc (by with_reducible assumption) _)))
                case rest3003 =>
                clear hK K
                try simp only [Act.put, List.setIfInBounds_toArray, List.set_cons_zero, List.set_cons_succ]
                refine wpAnyH_take (i := 3) (v := ?v3004) (at_list rfl) (by kernel_rfl) (by kernel_rfl) (by kernel_rfl) (fun _ _ _ h => h) (Or.inl ⟨by rfl, ?hy3004⟩) (by assumption) ?rest3004
                case hy3004 => intro w hSw; (try dsimp only at hSw); go_simp; try (with_reducible rfl)
                case rest3004 =>
                try simp only [Act.put, List.setIfInBounds_toArray, List.set_cons_zero, List.set_cons_succ]
                refine wpAnyH_take (i := 4) (v := ?v3005) (at_list rfl) (by kernel_rfl) (by kernel_rfl) (by kernel_rfl) (fun _ _ _ h => h) (Or.inl ⟨by rfl, ?hy3005⟩) (by assumption) ?rest3005
                case hy3005 => intro w hSw; (try dsimp only at hSw); go_simp; try (with_reducible rfl)
                case rest3005 =>
                try simp only [Act.put, List.setIfInBounds_toArray, List.set_cons_zero, List.set_cons_succ]
                refine wpAnyH_take (i := 5) (v := ?v3006) (at_list rfl) (by kernel_rfl) (by kernel_rfl) (by kernel_rfl) (fun _ _ _ h => h) (Or.inl ⟨by rfl, ?hy3006⟩) (by assumption) ?rest3006
                case hy3006 => intro w hSw; (try dsimp only at hSw); go_simp; try (with_reducible rfl)
                case rest3006 =>
                try simp only [Act.put, List.setIfInBounds_toArray, List.set_cons_zero, List.set_cons_succ]
                refine wpAnyH_ready (rs := [6]) (by kernel_rfl) (by simp) ?_
                refine AllReadyH.cons (at_list rfl) (fun K hK => ?_) AllReadyH.nil
                go_simp
                go_at_call 16; refine (HHBY.out x HXL.out _ _ _ (by exact HXr.out.below (Bx.out (by (first | with_reducible assumption | with_reducible exact bx_alloc (by with_reducible assumption) _ | with_reducible exact bx_drew (by with_reducible assumption) | with_reducible exact bx_drew (bx_alloc (by with_reducible assumption) _)))))).mono ?_; rintro e w40 ⟨rfl, bw40⟩; have hBw40 : Bx (Below w35.heap.size w35 w40) := bx_to (by (first | with_reducible assumption | with_reducible exact bx_alloc (by with_reducible assumption) _ | with_reducible exact bx_drew (by with_reducible assumption) | with_reducible exact bx_drew (bx_alloc (by with_reducible assumption) _))) bw40; have hzw40 := bx_size hBw40; have q40_w40 := ((bcell hBw40.out).1 _ _ lt_g4).trans q40; have q41_w40 := ((bcell hBw40.out).1 _ _ lt_g4).trans q41; have kgx0_w40 := ((bcell hBw40.out).1 _ _ lt_gx).trans kgx0; have kgx1_w40 := ((bcell hBw40.out).1 _ _ lt_gx).trans kgx1; have kp0_w40 := ((bcell hBw40.out).1 _ _ lt_gL).trans kp0; have kp1_w40 := ((bcell hBw40.out).1 _ _ lt_gL).trans kp1
                refine hK.out _ _ ?hS3007 (fun hHeld => ?rest3007)
                case hS3007 => (try dsimp only); (refine (fun (hK : Bx (Below w35.heap.size w35 _)) => ⟨((bcell hK.out).1 _ _ lt_g4).trans q40, ((bcell hK.out).1 _ _ lt_g4).trans q41, ((bcell hK.out).1 _ _ lt_gx).trans kgx0, ((bcell hK.out).1 _ _ lt_gx).trans kgx1, ((bcell hK.out).1 _ _ lt_gL).trans kp0, ((bcell hK.out).1 _ _ lt_gL).trans kp1, hK⟩) ?_; (first | with_reducible assumption | with_reducible exact bx_alloc (by with_reducible assumption) _ | with_reducible exact bx_drew (by with_reducible assumption) | with_reducible exact bx_drew (bx_alloc (by with_reducible assumption) _)))
                case rest3007 =>
                clear hK K
                try simp only [Act.put, List.setIfInBounds_toArray, List.set_cons_zero, List.set_cons_succ]
                refine wpAnyH_take (i := 7) (v := ?v3008) (at_list rfl) (by kernel_rfl) (by kernel_rfl) (by kernel_rfl) (fun _ _ _ h => h) (Or.inl ⟨by rfl, ?hy3008⟩) (by assumption) ?rest3008
                case hy3008 => intro w hSw; (try dsimp only at hSw); go_simp; try (with_reducible rfl)
                case rest3008 =>
                try simp only [Act.put, List.setIfInBounds_toArray, List.set_cons_zero, List.set_cons_succ]
                refine wpAnyH_take (i := 8) (v := ?v3009) (at_list rfl) (by kernel_rfl) (by kernel_rfl) (by kernel_rfl) (fun _ _ _ h => h) (Or.inl ⟨by rfl, ?hy3009⟩) (by assumption) ?rest3009
                case hy3009 => intro w hSw; (try dsimp only at hSw); go_simp; try (with_reducible rfl)
                case rest3009 =>
                try simp only [Act.put, List.setIfInBounds_toArray, List.set_cons_zero, List.set_cons_succ]
                refine wpAnyH_take (i := 9) (v := ?v3010) (at_list rfl) (by kernel_rfl) (by kernel_rfl) (by kernel_rfl) (fun _ _ _ h => h) (Or.inl ⟨by rfl, ?hy3010⟩) (by assumption) ?rest3010
                case hy3010 => intro w hSw; (try dsimp only at hSw); go_simp; try (with_reducible rfl)
                case rest3010 =>
                try simp only [Act.put, List.setIfInBounds_toArray, List.set_cons_zero, List.set_cons_succ]
                refine wpAnyH_take (i := 10) (v := ?v3011) (at_list rfl) (by kernel_rfl) (by kernel_rfl) (by kernel_rfl) (fun _ _ _ h => h) (Or.inl ⟨by rfl, ?hy3011⟩) (by assumption) ?rest3011
                case hy3011 => intro w hSw; (try dsimp only at hSw); go_simp; try (with_reducible rfl)
                case rest3011 =>
                try simp only [Act.put, List.setIfInBounds_toArray, List.set_cons_zero, List.set_cons_succ]
                refine wpAnyH_take (i := 11) (v := .bool true) (at_list rfl) (by kernel_rfl) (by kernel_rfl) (by kernel_rfl) (fun _ _ _ h => h) (Or.inl ⟨by rfl, ?hy3012⟩) (by assumption) ?rest3012
                case hy3012 => intro w hSw; (try dsimp only at hSw); go_simp; try (with_reducible rfl)
                case rest3012 =>
                try simp only [Act.put, List.setIfInBounds_toArray, List.set_cons_zero, List.set_cons_succ]
                refine wpAnyH_take (i := 12) (v := .bool true) (at_list rfl) (by kernel_rfl) (by kernel_rfl) (by kernel_rfl) (fun _ _ _ h => h) (Or.inl ⟨by rfl, ?hy3013⟩) (by assumption) ?rest3013
                case hy3013 => intro w hSw; (try dsimp only at hSw); go_simp; try (with_reducible rfl)
                case rest3013 =>
                try simp only [Act.put, List.setIfInBounds_toArray, List.set_cons_zero, List.set_cons_succ]
                refine wpAnyH_take (i := 13) (v := ?v3014) (at_list rfl) (by kernel_rfl) (by kernel_rfl) (by kernel_rfl) (fun _ _ _ h => h) (Or.inl ⟨by rfl, ?hy3014⟩) (by assumption) ?rest3014
                case hy3014 => intro w hSw; (try dsimp only at hSw); go_simp; try (with_reducible rfl)
                case rest3014 =>
                try simp only [Act.put, List.setIfInBounds_toArray, List.set_cons_zero, List.set_cons_succ]
                refine wpAnyH_take (i := 14) (v := ?v3015) (at_list rfl) (by kernel_rfl) (by kernel_rfl) (by kernel_rfl) (fun _ _ _ h => h) (Or.inl ⟨by rfl, ?hy3015⟩) (by assumption) ?rest3015
                case hy3015 => intro w hSw; (try dsimp only at hSw); go_simp; try (with_reducible rfl)
                case rest3015 =>
                try simp only [Act.put, List.setIfInBounds_toArray, List.set_cons_zero, List.set_cons_succ]
                refine wpAnyH_take (i := 15) (v := ?v3016) (at_list rfl) (by kernel_rfl) (by kernel_rfl) (by kernel_rfl) (fun _ _ _ h => h) (Or.inl ⟨by rfl, ?hy3016⟩) (by assumption) ?rest3016
                case hy3016 => intro w hSw; (try dsimp only at hSw); go_simp; try (with_reducible rfl)
                case rest3016 =>
                try simp only [Act.put, List.setIfInBounds_toArray, List.set_cons_zero, List.set_cons_succ]
                refine wpAnyH_take (i := 16) (v := ?v3017) (at_list rfl) (by kernel_rfl) (by kernel_rfl) (by kernel_rfl) (fun _ _ _ h => h) (Or.inl ⟨by rfl, ?hy3017⟩) (by assumption) ?rest3017
                case hy3017 => intro w hSw; (try dsimp only at hSw); go_simp; try (with_reducible rfl)
                case rest3017 =>
                try simp only [Act.put, List.setIfInBounds_toArray, List.set_cons_zero, List.set_cons_succ]
                refine wpAnyH_take (i := 17) (v := ?v3018) (at_list rfl) (by kernel_rfl) (by kernel_rfl) (by kernel_rfl) (fun _ _ _ h => h) (Or.inl ⟨by rfl, ?hy3018⟩) (by assumption) ?rest3018
                case hy3018 => intro w hSw; (try dsimp only at hSw); go_simp; try (with_reducible rfl)
                case rest3018 =>
                try simp only [Act.put, List.setIfInBounds_toArray, List.set_cons_zero, List.set_cons_succ]
                refine wpAnyH_take (i := 19) (v := ?v3019) (at_list rfl) (by kernel_rfl) (by kernel_rfl) (by kernel_rfl) (fun _ _ _ h => h) (Or.inl ⟨by rfl, ?hy3019⟩) (by assumption) ?rest3019
                case hy3019 => intro w hSw; (try dsimp only at hSw); go_simp; try (with_reducible rfl)
                case rest3019 =>
                try simp only [Act.put, List.setIfInBounds_toArray, List.set_cons_zero, List.set_cons_succ]
                refine wpAnyH_ready (rs := [18]) (by kernel_rfl) (by simp) ?_
                refine AllReadyH.cons (at_list rfl) (fun K hK => ?_) AllReadyH.nil
                go_simp
                go_at_call 17; refine (HF1.out _ _ _ (by exact HX0r.out.below (Bx.out (by (first | with_reducible assumption | with_reducible exact bx_alloc (by with_reducible assumption) _ | with_reducible exact bx_drew (by with_reducible assumption) | with_reducible exact bx_drew (bx_alloc (by with_reducible assumption) _)))))).mono ?_; rintro e w41 ⟨rfl, bw41⟩; have hBw41 : Bx (Below w35.heap.size w35 w41) := bx_to (by (first | with_reducible assumption | with_reducible exact bx_alloc (by with_reducible assumption) _ | with_reducible exact bx_drew (by with_reducible assumption) | with_reducible exact bx_drew (bx_alloc (by with_reducible assumption) _))) bw41; have hzw41 := bx_size hBw41; have q40_w41 := ((bcell hBw41.out).1 _ _ lt_g4).trans q40; have q41_w41 := ((bcell hBw41.out).1 _ _ lt_g4).trans q41; have kgx0_w41 := ((bcell hBw41.out).1 _ _ lt_gx).trans kgx0; have kgx1_w41 := ((bcell hBw41.out).1 _ _ lt_gx).trans kgx1; have kp0_w41 := ((bcell hBw41.out).1 _ _ lt_gL).trans kp0; have kp1_w41 := ((bcell hBw41.out).1 _ _ lt_gL).trans kp1
                refine hK.out _ _ ?hS3020 (fun hHeld => ?rest3020)
                case hS3020 => (try dsimp only); (refine (fun (hK : Bx (Below w35.heap.size w35 _)) => ⟨((bcell hK.out).1 _ _ lt_g4).trans q40, ((bcell hK.out).1 _ _ lt_g4).trans q41, ((bcell hK.out).1 _ _ lt_gx).trans kgx0, ((bcell hK.out).1 _ _ lt_gx).trans kgx1, ((bcell hK.out).1 _ _ lt_gL).trans kp0, ((bcell hK.out).1 _ _ lt_gL).trans kp1, hK⟩) ?_; (first | with_reducible assumption | with_reducible exact bx_alloc (by with_reducible assumption) _ | with_reducible exact bx_drew (by with_reducible assumption) | with_reducible exact bx_drew (bx_alloc (by with_reducible assumption) _)))
                case rest3020 =>
                clear hK K
                try simp only [Act.put, List.setIfInBounds_toArray, List.set_cons_zero, List.set_cons_succ]
                refine wpAnyH_ready (rs := [20]) (by kernel_rfl) (by simp) ?_
                refine AllReadyH.cons (at_list rfl) (fun K hK => ?_) AllReadyH.nil
                go_simp
                go_at_call 17; refine (HF2.out _ _ _ (by exact HXr.out.below (Bx.out (by (first | with_reducible assumption | with_reducible exact bx_alloc (by with_reducible assumption) _ | with_reducible exact bx_drew (by with_reducible assumption) | with_reducible exact bx_drew (bx_alloc (by with_reducible assumption) _)))))).mono ?_; rintro e w42 ⟨rfl, bw42⟩; have hBw42 : Bx (Below w35.heap.size w35 w42) := bx_to (by (first | with_reducible assumption | with_reducible exact bx_alloc (by with_reducible assumption) _ | with_reducible exact bx_drew (by with_reducible assumption) | with_reducible exact bx_drew (bx_alloc (by with_reducible assumption) _))) bw42; have hzw42 := bx_size hBw42; have q40_w42 := ((bcell hBw42.out).1 _ _ lt_g4).trans q40; have q41_w42 := ((bcell hBw42.out).1 _ _ lt_g4).trans q41; have kgx0_w42 := ((bcell hBw42.out).1 _ _ lt_gx).trans kgx0; have kgx1_w42 := ((bcell hBw42.out).1 _ _ lt_gx).trans kgx1; have kp0_w42 := ((bcell hBw42.out).1 _ _ lt_gL).trans kp0; have kp1_w42 := ((bcell hBw42.out).1 _ _ lt_gL).trans kp1
                refine hK.out _ _ ?hS3021 (fun hHeld => ?rest3021)
                case hS3021 => (try dsimp only); (refine (fun (hK : Bx (Below w35.heap.size w35 _)) => ⟨((bcell hK.out).1 _ _ lt_g4).trans q40, ((bcell hK.out).1 _ _ lt_g4).trans q41, ((bcell hK.out).1 _ _ lt_gx).trans kgx0, ((bcell hK.out).1 _ _ lt_gx).trans kgx1, ((bcell hK.out).1 _ _ lt_gL).trans kp0, ((bcell hK.out).1 _ _ lt_gL).trans kp1, hK⟩) ?_; (first | with_reducible assumption | with_reducible exact bx_alloc (by with_reducible assumption) _ | with_reducible exact bx_drew (by with_reducible assumption) | with_reducible exact bx_drew (bx_alloc (by with_reducible assumption) _)))
                case rest3021 =>
                clear hK K
                try simp only [Act.put, List.setIfInBounds_toArray, List.set_cons_zero, List.set_cons_succ]
                refine wpAnyH_take (i := 21) (v := .bool false) (at_list rfl) (by kernel_rfl) (by kernel_rfl) (by kernel_rfl) (fun _ _ _ h => h) (Or.inl ⟨by rfl, ?hy3022⟩) (by assumption) ?rest3022
                case hy3022 => intro w hSw; (try dsimp only at hSw); go_simp; try (with_reducible rfl)
                case rest3022 =>
                try simp only [Act.put, List.setIfInBounds_toArray, List.set_cons_zero, List.set_cons_succ]
                refine wpAnyH_take (i := 22) (v := ?v3023) (at_list rfl) (by kernel_rfl) (by kernel_rfl) (by kernel_rfl) (fun _ _ _ h => h) (Or.inl ⟨by rfl, ?hy3023⟩) (by assumption) ?rest3023
                case hy3023 => intro w hSw; (try dsimp only at hSw); go_simp; try (with_reducible rfl)
                case rest3023 =>
                try simp only [Act.put, List.setIfInBounds_toArray, List.set_cons_zero, List.set_cons_succ]
                refine wpAnyH_take (i := 23) (v := ?v3024) (at_list rfl) (by kernel_rfl) (by kernel_rfl) (by kernel_rfl) (fun _ _ _ h => h) (Or.inl ⟨by rfl, ?hy3024⟩) (by assumption) ?rest3024
                case hy3024 => intro w hSw; (try dsimp only at hSw); go_simp; try (with_reducible rfl)
                case rest3024 =>
                try simp only [Act.put, List.setIfInBounds_toArray, List.set_cons_zero, List.set_cons_succ]
                refine wpAnyH_take (i := 24) (v := ?v3025) (at_list rfl) (by kernel_rfl) (by kernel_rfl) (by kernel_rfl) (fun _ _ _ h => h) (Or.inl ⟨by rfl, ?hy3025⟩) (by assumption) ?rest3025
                case hy3025 => intro w hSw; (try dsimp only at hSw); go_simp; try (with_reducible rfl)
                case rest3025 =>
                try simp only [Act.put, List.setIfInBounds_toArray, List.set_cons_zero, List.set_cons_succ]
                refine wpAnyH_take (i := 25) (v := ?v3026) (at_list rfl) (by kernel_rfl) (by kernel_rfl) (by kernel_rfl) (fun _ _ _ h => h) (Or.inl ⟨by rfl, ?hy3026⟩) (by assumption) ?rest3026
                case hy3026 => intro w hSw; (try dsimp only at hSw); go_simp; try (with_reducible rfl)
                case rest3026 =>
                try simp only [Act.put, List.setIfInBounds_toArray, List.set_cons_zero, List.set_cons_succ]
                refine wpAnyH_take (i := 26) (v := .bool true) (at_list rfl) (by kernel_rfl) (by kernel_rfl) (by kernel_rfl) (fun _ _ _ h => h) (Or.inl ⟨by rfl, ?hy3027⟩) (by assumption) ?rest3027
                case hy3027 => intro w hSw; (try dsimp only at hSw); go_simp; try (with_reducible rfl)
                case rest3027 =>
                try simp only [Act.put, List.setIfInBounds_toArray, List.set_cons_zero, List.set_cons_succ]
                refine wpAnyH_take (i := 27) (v := .bool true) (at_list rfl) (by kernel_rfl) (by kernel_rfl) (by kernel_rfl) (fun _ _ _ h => h) (Or.inl ⟨by rfl, ?hy3028⟩) (by assumption) ?rest3028
                case hy3028 => intro w hSw; (try dsimp only at hSw); go_simp; try (with_reducible rfl)
                case rest3028 =>
                try simp only [Act.put, List.setIfInBounds_toArray, List.set_cons_zero, List.set_cons_succ]
                refine wpAnyH_take (i := 28) (v := ?v3029) (at_list rfl) (by kernel_rfl) (by kernel_rfl) (by kernel_rfl) (fun _ _ _ h => h) (Or.inl ⟨by rfl, ?hy3029⟩) (by assumption) ?rest3029
                case hy3029 => intro w hSw; (try dsimp only at hSw); go_simp; try (with_reducible rfl)
                case rest3029 =>
                try simp only [Act.put, List.setIfInBounds_toArray, List.set_cons_zero, List.set_cons_succ]
                refine wpAnyH_take (i := 29) (v := ?v3030) (at_list rfl) (by kernel_rfl) (by kernel_rfl) (by kernel_rfl) (fun _ _ _ h => h) (Or.inl ⟨by rfl, ?hy3030⟩) (by assumption) ?rest3030
                case hy3030 => intro w hSw; (try dsimp only at hSw); go_simp; try (with_reducible rfl)
                case rest3030 =>
                try simp only [Act.put, List.setIfInBounds_toArray, List.set_cons_zero, List.set_cons_succ]
                refine wpAnyH_ready (rs := [30]) (by kernel_rfl) (by simp) ?_
                refine AllReadyH.cons (at_list rfl) (fun K hK => ?_) AllReadyH.nil
                go_simp
                go_at_call 18; refine (HPEl.out _ _ _ _ _ (by exact HR2.out.below (Bx.out (by (first | with_reducible assumption | with_reducible exact bx_alloc (by with_reducible assumption) _ | with_reducible exact bx_drew (by with_reducible assumption) | with_reducible exact bx_drew (bx_alloc (by with_reducible assumption) _))))) (by exact HXr.out.below (Bx.out (by (first | with_reducible assumption | with_reducible exact bx_alloc (by with_reducible assumption) _ | with_reducible exact bx_drew (by with_reducible assumption) | with_reducible exact bx_drew (bx_alloc (by with_reducible assumption) _)))))).mono ?_; rintro e w43 ⟨rfl, bw43⟩; have hBw43 : Bx (Below w35.heap.size w35 w43) := bx_to (by (first | with_reducible assumption | with_reducible exact bx_alloc (by with_reducible assumption) _ | with_reducible exact bx_drew (by with_reducible assumption) | with_reducible exact bx_drew (bx_alloc (by with_reducible assumption) _))) bw43; have hzw43 := bx_size hBw43; have q40_w43 := ((bcell hBw43.out).1 _ _ lt_g4).trans q40; have q41_w43 := ((bcell hBw43.out).1 _ _ lt_g4).trans q41; have kgx0_w43 := ((bcell hBw43.out).1 _ _ lt_gx).trans kgx0; have kgx1_w43 := ((bcell hBw43.out).1 _ _ lt_gx).trans kgx1; have kp0_w43 := ((bcell hBw43.out).1 _ _ lt_gL).trans kp0; have kp1_w43 := ((bcell hBw43.out).1 _ _ lt_gL).trans kp1
                refine hK.out _ _ ?hS3031 (fun hHeld => ?rest3031)
                case hS3031 => (try dsimp only); (refine (fun (hK : Bx (Below w35.heap.size w35 _)) => ⟨((bcell hK.out).1 _ _ lt_g4).trans q40, ((bcell hK.out).1 _ _ lt_g4).trans q41, ((bcell hK.out).1 _ _ lt_gx).trans kgx0, ((bcell hK.out).1 _ _ lt_gx).trans kgx1, ((bcell hK.out).1 _ _ lt_gL).trans kp0, ((bcell hK.out).1 _ _ lt_gL).trans kp1, hK⟩) ?_; (first | with_reducible assumption | with_reducible exact bx_alloc (by with_reducible assumption) _ | with_reducible exact bx_drew (by with_reducible assumption) | with_reducible exact bx_drew (bx_alloc (by with_reducible assumption) _)))
                case rest3031 =>
                clear hK K
                try simp only [Act.put, List.setIfInBounds_toArray, List.set_cons_zero, List.set_cons_succ]
                refine wpAnyH_take (i := 31) (v := ?v3032) (at_list rfl) (by kernel_rfl) (by kernel_rfl) (by kernel_rfl) (fun _ _ _ h => h) (Or.inl ⟨by rfl, ?hy3032⟩) (by assumption) ?rest3032
                case hy3032 => intro w hSw; (try dsimp only at hSw); go_simp; try (with_reducible rfl)
                case rest3032 =>
                try simp only [Act.put, List.setIfInBounds_toArray, List.set_cons_zero, List.set_cons_succ]
                refine wpAnyH_take (i := 32) (v := ?v3033) (at_list rfl) (by kernel_rfl) (by kernel_rfl) (by kernel_rfl) (fun _ _ _ h => h) (Or.inl ⟨by rfl, ?hy3033⟩) (by assumption) ?rest3033
                case hy3033 => intro w hSw; (try dsimp only at hSw); go_simp; try (with_reducible rfl)
                case rest3033 =>
                try simp only [Act.put, List.setIfInBounds_toArray, List.set_cons_zero, List.set_cons_succ]
                refine wpAnyH_take (i := 33) (v := ?v3034) (at_list rfl) (by kernel_rfl) (by kernel_rfl) (by kernel_rfl) (fun _ _ _ h => h) (Or.inl ⟨by rfl, ?hy3034⟩) (by assumption) ?rest3034
                case hy3034 => intro w hSw; (try dsimp only at hSw); go_simp; try (with_reducible rfl)
                case rest3034 =>
                try simp only [Act.put, List.setIfInBounds_toArray, List.set_cons_zero, List.set_cons_succ]
                refine wpAnyH_done (by kernel_rfl) ?_ _
                have b := hBw43.out
                replace q40 := ((bcell b).1 _ _ lt_g4w).trans q40
                replace q41 := ((bcell b).1 _ _ lt_g4w).trans q41
                replace kgx0 := ((bcell b).1 _ _ lt_gx).trans kgx0
                replace kgx1 := ((bcell b).1 _ _ lt_gx).trans kgx1
                replace lt_g4w := Nat.lt_of_lt_of_le lt_g4w b.size
                replace lt_gx := Nat.lt_of_lt_of_le lt_gx b.size
                replace HXr := Bx.mk (HXr.out.below b)
                replace HR2 := Bx.mk (HR2.out.below b)
                replace HL2 := Bx.mk (HL2.out.below b)
                replace bw := bw.trans (b.mono bw.size)
                clear b
                have HRF := Bx.mk bw
                clear bw
                go_wp2_with fail
                go_roundw
                case rel => exact ⟨k + 1, by omega, by go_num, HRF⟩
                case measure => simp [intOf]; omega
            · skip
              have hmg : ¬ (m : Int) > 1 := by omega
              clear HPE hm1
              by_cases hk0 : k = 0
              · as_aux_lemma =>
                have lt_g4 := lt_g4w
                have hkg : ¬ ((k : Int) > 0) := by omega
                have hB : Bx (Below w35.heap.size w35 w35.drew) := ⟨(Below.refl _ _).drew⟩
                have hB0 : Bx (Below w35.heap.size w35 w35) := ⟨Below.refl _ _⟩
                have q40_d : w35.drew.cell? _ = _ := q40
                have q41_d : w35.drew.cell? _ = _ := q41
                have kgx0_d : w35.drew.cell? _ = _ := kgx0
                have kgx1_d : w35.drew.cell? _ = _ := kgx1
                refine wp_region_held_drew (S := fun w' => w'.cell? ⟨g4, 0, none⟩ = some (.int .i64 m) ∧ w'.cell? ⟨g4, 1, none⟩ = some (.slice Ar r.length cr) ∧ w'.cell? ⟨gx, 0, none⟩ = some (.int .i64 m) ∧ w'.cell? ⟨gx, 1, none⟩ = some (.slice BX x.length cX) ∧ Bx (Below w35.heap.size w35 w')) (by kernel_rfl) ?hS4000 (fun hHeld => ?rest4000)
                case hS4000 => (try dsimp only); (refine (fun (hK : Bx (Below w35.heap.size w35 _)) => ⟨((bcell hK.out).1 _ _ lt_g4).trans q40, ((bcell hK.out).1 _ _ lt_g4).trans q41, ((bcell hK.out).1 _ _ lt_gx).trans kgx0, ((bcell hK.out).1 _ _ lt_gx).trans kgx1, hK⟩) ?_; (first | with_reducible assumption | with_reducible exact bx_alloc (by with_reducible assumption) _ | with_reducible exact bx_drew (by with_reducible assumption) | with_reducible exact bx_drew (bx_alloc (by with_reducible assumption) _)))
                case rest4000 =>
                refine wpAnyH_take (i := 0) (v := ?v4001) (at_list rfl) (by kernel_rfl) (by kernel_rfl) (by kernel_rfl) (fun _ _ _ h => h) (Or.inl ⟨by rfl, ?hy4001⟩) (by assumption) ?rest4001
                case hy4001 => intro w hSw; (try dsimp only at hSw); go_simp; try (with_reducible rfl)
                case rest4001 =>
                try simp only [Act.put, List.setIfInBounds_toArray, List.set_cons_zero, List.set_cons_succ]
                refine wpAnyH_take (i := 1) (v := ?v4002) (at_list rfl) (by kernel_rfl) (by kernel_rfl) (by kernel_rfl) (fun _ _ _ h => h) (Or.inl ⟨by rfl, ?hy4002⟩) (by assumption) ?rest4002
                case hy4002 => intro w hSw; (try dsimp only at hSw); go_simp; try (with_reducible rfl)
                case rest4002 =>
                try simp only [Act.put, List.setIfInBounds_toArray, List.set_cons_zero, List.set_cons_succ]
                refine wpAnyH_ready (rs := [2]) (by kernel_rfl) (by simp) ?_
                refine AllReadyH.cons (at_list rfl) (fun K hK => ?_) AllReadyH.nil
                go_simp
                go_at_call 14; refine (HITY.out x HXL.out _ _ _ _ _ (by exact HR2.out.below (Bx.out (by (first | with_reducible assumption | with_reducible exact bx_alloc (by with_reducible assumption) _ | with_reducible exact bx_drew (by with_reducible assumption) | with_reducible exact bx_drew (bx_alloc (by with_reducible assumption) _))))) (by exact HXr.out.below (Bx.out (by (first | with_reducible assumption | with_reducible exact bx_alloc (by with_reducible assumption) _ | with_reducible exact bx_drew (by with_reducible assumption) | with_reducible exact bx_drew (bx_alloc (by with_reducible assumption) _)))))).mono ?_; rintro e w44 ⟨rfl, bw44⟩; have hBw44 : Bx (Below w35.heap.size w35 w44) := bx_to (by (first | with_reducible assumption | with_reducible exact bx_alloc (by with_reducible assumption) _ | with_reducible exact bx_drew (by with_reducible assumption) | with_reducible exact bx_drew (bx_alloc (by with_reducible assumption) _))) bw44; have hzw44 := bx_size hBw44; have q40_w44 := ((bcell hBw44.out).1 _ _ lt_g4).trans q40; have q41_w44 := ((bcell hBw44.out).1 _ _ lt_g4).trans q41; have kgx0_w44 := ((bcell hBw44.out).1 _ _ lt_gx).trans kgx0; have kgx1_w44 := ((bcell hBw44.out).1 _ _ lt_gx).trans kgx1
                refine hK.out _ _ ?hS4003 (fun hHeld => ?rest4003)
                case hS4003 => (try dsimp only); (refine (fun (hK : Bx (Below w35.heap.size w35 _)) => ⟨((bcell hK.out).1 _ _ lt_g4).trans q40, ((bcell hK.out).1 _ _ lt_g4).trans q41, ((bcell hK.out).1 _ _ lt_gx).trans kgx0, ((bcell hK.out).1 _ _ lt_gx).trans kgx1, hK⟩) ?_; (first | with_reducible assumption | with_reducible exact bx_alloc (by with_reducible assumption) _ | with_reducible exact bx_drew (by with_reducible assumption) | with_reducible exact bx_drew (bx_alloc (by with_reducible assumption) _)))
                case rest4003 =>
                clear hK K
                try simp only [Act.put, List.setIfInBounds_toArray, List.set_cons_zero, List.set_cons_succ]
                refine wpAnyH_take (i := 3) (v := ?v4004) (at_list rfl) (by kernel_rfl) (by kernel_rfl) (by kernel_rfl) (fun _ _ _ h => h) (Or.inl ⟨by rfl, ?hy4004⟩) (by assumption) ?rest4004
                case hy4004 => intro w hSw; (try dsimp only at hSw); go_simp; try (with_reducible rfl)
                case rest4004 =>
                try simp only [Act.put, List.setIfInBounds_toArray, List.set_cons_zero, List.set_cons_succ]
                refine wpAnyH_take (i := 4) (v := ?v4005) (at_list rfl) (by kernel_rfl) (by kernel_rfl) (by kernel_rfl) (fun _ _ _ h => h) (Or.inl ⟨by rfl, ?hy4005⟩) (by assumption) ?rest4005
                case hy4005 => intro w hSw; (try dsimp only at hSw); go_simp; try (with_reducible rfl)
                case rest4005 =>
                try simp only [Act.put, List.setIfInBounds_toArray, List.set_cons_zero, List.set_cons_succ]
                refine wpAnyH_take (i := 5) (v := ?v4006) (at_list rfl) (by kernel_rfl) (by kernel_rfl) (by kernel_rfl) (fun _ _ _ h => h) (Or.inl ⟨by rfl, ?hy4006⟩) (by assumption) ?rest4006
                case hy4006 => intro w hSw; (try dsimp only at hSw); go_simp; try (with_reducible rfl)
                case rest4006 =>
                try simp only [Act.put, List.setIfInBounds_toArray, List.set_cons_zero, List.set_cons_succ]
                refine wpAnyH_ready (rs := [6]) (by kernel_rfl) (by simp) ?_
                refine AllReadyH.cons (at_list rfl) (fun K hK => ?_) AllReadyH.nil
                go_simp
                go_at_call 16; refine (HHBY.out x HXL.out _ _ _ (by exact HXr.out.below (Bx.out (by (first | with_reducible assumption | with_reducible exact bx_alloc (by with_reducible assumption) _ | with_reducible exact bx_drew (by with_reducible assumption) | with_reducible exact bx_drew (bx_alloc (by with_reducible assumption) _)))))).mono ?_; rintro e w45 ⟨rfl, bw45⟩; have hBw45 : Bx (Below w35.heap.size w35 w45) := bx_to (by (first | with_reducible assumption | with_reducible exact bx_alloc (by with_reducible assumption) _ | with_reducible exact bx_drew (by with_reducible assumption) | with_reducible exact bx_drew (bx_alloc (by with_reducible assumption) _))) bw45; have hzw45 := bx_size hBw45; have q40_w45 := ((bcell hBw45.out).1 _ _ lt_g4).trans q40; have q41_w45 := ((bcell hBw45.out).1 _ _ lt_g4).trans q41; have kgx0_w45 := ((bcell hBw45.out).1 _ _ lt_gx).trans kgx0; have kgx1_w45 := ((bcell hBw45.out).1 _ _ lt_gx).trans kgx1
                refine hK.out _ _ ?hS4007 (fun hHeld => ?rest4007)
                case hS4007 => (try dsimp only); (refine (fun (hK : Bx (Below w35.heap.size w35 _)) => ⟨((bcell hK.out).1 _ _ lt_g4).trans q40, ((bcell hK.out).1 _ _ lt_g4).trans q41, ((bcell hK.out).1 _ _ lt_gx).trans kgx0, ((bcell hK.out).1 _ _ lt_gx).trans kgx1, hK⟩) ?_; (first | with_reducible assumption | with_reducible exact bx_alloc (by with_reducible assumption) _ | with_reducible exact bx_drew (by with_reducible assumption) | with_reducible exact bx_drew (bx_alloc (by with_reducible assumption) _)))
                case rest4007 =>
                clear hK K
                try simp only [Act.put, List.setIfInBounds_toArray, List.set_cons_zero, List.set_cons_succ]
                refine wpAnyH_take (i := 7) (v := ?v4008) (at_list rfl) (by kernel_rfl) (by kernel_rfl) (by kernel_rfl) (fun _ _ _ h => h) (Or.inl ⟨by rfl, ?hy4008⟩) (by assumption) ?rest4008
                case hy4008 => intro w hSw; (try dsimp only at hSw); go_simp; try (with_reducible rfl)
                case rest4008 =>
                try simp only [Act.put, List.setIfInBounds_toArray, List.set_cons_zero, List.set_cons_succ]
                refine wpAnyH_take (i := 8) (v := ?v4009) (at_list rfl) (by kernel_rfl) (by kernel_rfl) (by kernel_rfl) (fun _ _ _ h => h) (Or.inl ⟨by rfl, ?hy4009⟩) (by assumption) ?rest4009
                case hy4009 => intro w hSw; (try dsimp only at hSw); go_simp; try (with_reducible rfl)
                case rest4009 =>
                try simp only [Act.put, List.setIfInBounds_toArray, List.set_cons_zero, List.set_cons_succ]
                refine wpAnyH_take (i := 9) (v := ?v4010) (at_list rfl) (by kernel_rfl) (by kernel_rfl) (by kernel_rfl) (fun _ _ _ h => h) (Or.inl ⟨by rfl, ?hy4010⟩) (by assumption) ?rest4010
                case hy4010 => intro w hSw; (try dsimp only at hSw); go_simp; try (with_reducible rfl)
                case rest4010 =>
                try simp only [Act.put, List.setIfInBounds_toArray, List.set_cons_zero, List.set_cons_succ]
                refine wpAnyH_take (i := 10) (v := ?v4011) (at_list rfl) (by kernel_rfl) (by kernel_rfl) (by kernel_rfl) (fun _ _ _ h => h) (Or.inl ⟨by rfl, ?hy4011⟩) (by assumption) ?rest4011
                case hy4011 => intro w hSw; (try dsimp only at hSw); go_simp; try (with_reducible rfl)
                case rest4011 =>
                try simp only [Act.put, List.setIfInBounds_toArray, List.set_cons_zero, List.set_cons_succ]
                refine wpAnyH_take (i := 11) (v := .bool false) (at_list rfl) (by kernel_rfl) (by kernel_rfl) (by kernel_rfl) (fun _ _ _ h => h) (Or.inl ⟨by rfl, ?hy4012⟩) (by assumption) ?rest4012
                case hy4012 => intro w hSw; (try dsimp only at hSw); go_simp; try (with_reducible rfl)
                case rest4012 =>
                try simp only [Act.put, List.setIfInBounds_toArray, List.set_cons_zero, List.set_cons_succ]
                refine wpAnyH_take (i := 12) (v := .bool false) (at_list rfl) (by kernel_rfl) (by kernel_rfl) (by kernel_rfl) (fun _ _ _ h => h) (Or.inl ⟨by rfl, ?hy4013⟩) (by assumption) ?rest4013
                case hy4013 => intro w hSw; (try dsimp only at hSw); go_simp; try (with_reducible rfl)
                case rest4013 =>
                try simp only [Act.put, List.setIfInBounds_toArray, List.set_cons_zero, List.set_cons_succ]
                refine wpAnyH_take (i := 13) (v := undef) (at_list rfl) (by kernel_rfl) (by kernel_rfl) (by kernel_rfl) (fun _ _ _ h => h) (Or.inr ⟨by rfl, rfl⟩) (by assumption) ?rest4014
                case rest4014 =>
                try simp only [Act.put, List.setIfInBounds_toArray, List.set_cons_zero, List.set_cons_succ]
                refine wpAnyH_take (i := 14) (v := undef) (at_list rfl) (by kernel_rfl) (by kernel_rfl) (by kernel_rfl) (fun _ _ _ h => h) (Or.inr ⟨by rfl, rfl⟩) (by assumption) ?rest4015
                case rest4015 =>
                try simp only [Act.put, List.setIfInBounds_toArray, List.set_cons_zero, List.set_cons_succ]
                refine wpAnyH_take (i := 15) (v := undef) (at_list rfl) (by kernel_rfl) (by kernel_rfl) (by kernel_rfl) (fun _ _ _ h => h) (Or.inr ⟨by rfl, rfl⟩) (by assumption) ?rest4016
                case rest4016 =>
                try simp only [Act.put, List.setIfInBounds_toArray, List.set_cons_zero, List.set_cons_succ]
                refine wpAnyH_take (i := 16) (v := undef) (at_list rfl) (by kernel_rfl) (by kernel_rfl) (by kernel_rfl) (fun _ _ _ h => h) (Or.inr ⟨by rfl, rfl⟩) (by assumption) ?rest4017
                case rest4017 =>
                try simp only [Act.put, List.setIfInBounds_toArray, List.set_cons_zero, List.set_cons_succ]
                refine wpAnyH_take (i := 17) (v := undef) (at_list rfl) (by kernel_rfl) (by kernel_rfl) (by kernel_rfl) (fun _ _ _ h => h) (Or.inr ⟨by rfl, rfl⟩) (by assumption) ?rest4018
                case rest4018 =>
                try simp only [Act.put, List.setIfInBounds_toArray, List.set_cons_zero, List.set_cons_succ]
                refine wpAnyH_take (i := 18) (v := undef) (at_list rfl) (by kernel_rfl) (by kernel_rfl) (by kernel_rfl) (fun _ _ _ h => h) (Or.inr ⟨by rfl, rfl⟩) (by assumption) ?rest4019
                case rest4019 =>
                try simp only [Act.put, List.setIfInBounds_toArray, List.set_cons_zero, List.set_cons_succ]
                refine wpAnyH_take (i := 19) (v := undef) (at_list rfl) (by kernel_rfl) (by kernel_rfl) (by kernel_rfl) (fun _ _ _ h => h) (Or.inr ⟨by rfl, rfl⟩) (by assumption) ?rest4020
                case rest4020 =>
                try simp only [Act.put, List.setIfInBounds_toArray, List.set_cons_zero, List.set_cons_succ]
                refine wpAnyH_take (i := 20) (v := undef) (at_list rfl) (by kernel_rfl) (by kernel_rfl) (by kernel_rfl) (fun _ _ _ h => h) (Or.inr ⟨by rfl, rfl⟩) (by assumption) ?rest4021
                case rest4021 =>
                try simp only [Act.put, List.setIfInBounds_toArray, List.set_cons_zero, List.set_cons_succ]
                refine wpAnyH_take (i := 21) (v := undef) (at_list rfl) (by kernel_rfl) (by kernel_rfl) (by kernel_rfl) (fun _ _ _ h => h) (Or.inr ⟨by rfl, rfl⟩) (by assumption) ?rest4022
                case rest4022 =>
                try simp only [Act.put, List.setIfInBounds_toArray, List.set_cons_zero, List.set_cons_succ]
                refine wpAnyH_take (i := 22) (v := ?v4023) (at_list rfl) (by kernel_rfl) (by kernel_rfl) (by kernel_rfl) (fun _ _ _ h => h) (Or.inl ⟨by rfl, ?hy4023⟩) (by assumption) ?rest4023
                case hy4023 => intro w hSw; (try dsimp only at hSw); go_simp; try (with_reducible rfl)
                case rest4023 =>
                try simp only [Act.put, List.setIfInBounds_toArray, List.set_cons_zero, List.set_cons_succ]
                refine wpAnyH_take (i := 23) (v := ?v4024) (at_list rfl) (by kernel_rfl) (by kernel_rfl) (by kernel_rfl) (fun _ _ _ h => h) (Or.inl ⟨by rfl, ?hy4024⟩) (by assumption) ?rest4024
                case hy4024 => intro w hSw; (try dsimp only at hSw); go_simp; try (with_reducible rfl)
                case rest4024 =>
                try simp only [Act.put, List.setIfInBounds_toArray, List.set_cons_zero, List.set_cons_succ]
                refine wpAnyH_take (i := 24) (v := ?v4025) (at_list rfl) (by kernel_rfl) (by kernel_rfl) (by kernel_rfl) (fun _ _ _ h => h) (Or.inl ⟨by rfl, ?hy4025⟩) (by assumption) ?rest4025
                case hy4025 => intro w hSw; (try dsimp only at hSw); go_simp; try (with_reducible rfl)
                case rest4025 =>
                try simp only [Act.put, List.setIfInBounds_toArray, List.set_cons_zero, List.set_cons_succ]
                refine wpAnyH_take (i := 25) (v := ?v4026) (at_list rfl) (by kernel_rfl) (by kernel_rfl) (by kernel_rfl) (fun _ _ _ h => h) (Or.inl ⟨by rfl, ?hy4026⟩) (by assumption) ?rest4026
                case hy4026 => intro w hSw; (try dsimp only at hSw); go_simp; try (with_reducible rfl)
                case rest4026 =>
                try simp only [Act.put, List.setIfInBounds_toArray, List.set_cons_zero, List.set_cons_succ]
                refine wpAnyH_take (i := 26) (v := .bool false) (at_list rfl) (by kernel_rfl) (by kernel_rfl) (by kernel_rfl) (fun _ _ _ h => h) (Or.inl ⟨by rfl, ?hy4027⟩) (by assumption) ?rest4027
                case hy4027 => intro w hSw; (try dsimp only at hSw); go_simp; try (with_reducible rfl)
                case rest4027 =>
                try simp only [Act.put, List.setIfInBounds_toArray, List.set_cons_zero, List.set_cons_succ]
                refine wpAnyH_take (i := 27) (v := .bool false) (at_list rfl) (by kernel_rfl) (by kernel_rfl) (by kernel_rfl) (fun _ _ _ h => h) (Or.inl ⟨by rfl, ?hy4028⟩) (by assumption) ?rest4028
                case hy4028 => intro w hSw; (try dsimp only at hSw); go_simp; try (with_reducible rfl)
                case rest4028 =>
                try simp only [Act.put, List.setIfInBounds_toArray, List.set_cons_zero, List.set_cons_succ]
                refine wpAnyH_take (i := 28) (v := undef) (at_list rfl) (by kernel_rfl) (by kernel_rfl) (by kernel_rfl) (fun _ _ _ h => h) (Or.inr ⟨by rfl, rfl⟩) (by assumption) ?rest4029
                case rest4029 =>
                try simp only [Act.put, List.setIfInBounds_toArray, List.set_cons_zero, List.set_cons_succ]
                refine wpAnyH_take (i := 29) (v := undef) (at_list rfl) (by kernel_rfl) (by kernel_rfl) (by kernel_rfl) (fun _ _ _ h => h) (Or.inr ⟨by rfl, rfl⟩) (by assumption) ?rest4030
                case rest4030 =>
                try simp only [Act.put, List.setIfInBounds_toArray, List.set_cons_zero, List.set_cons_succ]
                refine wpAnyH_take (i := 30) (v := undef) (at_list rfl) (by kernel_rfl) (by kernel_rfl) (by kernel_rfl) (fun _ _ _ h => h) (Or.inr ⟨by rfl, rfl⟩) (by assumption) ?rest4031
                case rest4031 =>
                try simp only [Act.put, List.setIfInBounds_toArray, List.set_cons_zero, List.set_cons_succ]
                refine wpAnyH_take (i := 31) (v := undef) (at_list rfl) (by kernel_rfl) (by kernel_rfl) (by kernel_rfl) (fun _ _ _ h => h) (Or.inr ⟨by rfl, rfl⟩) (by assumption) ?rest4032
                case rest4032 =>
                try simp only [Act.put, List.setIfInBounds_toArray, List.set_cons_zero, List.set_cons_succ]
                refine wpAnyH_take (i := 32) (v := ?v4033) (at_list rfl) (by kernel_rfl) (by kernel_rfl) (by kernel_rfl) (fun _ _ _ h => h) (Or.inl ⟨by rfl, ?hy4033⟩) (by assumption) ?rest4033
                case hy4033 => intro w hSw; (try dsimp only at hSw); go_simp; try (with_reducible rfl)
                case rest4033 =>
                try simp only [Act.put, List.setIfInBounds_toArray, List.set_cons_zero, List.set_cons_succ]
                refine wpAnyH_take (i := 33) (v := ?v4034) (at_list rfl) (by kernel_rfl) (by kernel_rfl) (by kernel_rfl) (fun _ _ _ h => h) (Or.inl ⟨by rfl, ?hy4034⟩) (by assumption) ?rest4034
                case hy4034 => intro w hSw; (try dsimp only at hSw); go_simp; try (with_reducible rfl)
                case rest4034 =>
                try simp only [Act.put, List.setIfInBounds_toArray, List.set_cons_zero, List.set_cons_succ]
                refine wpAnyH_done (by kernel_rfl) ?_ _
                have b := hBw45.out
                replace q40 := ((bcell b).1 _ _ lt_g4w).trans q40
                replace q41 := ((bcell b).1 _ _ lt_g4w).trans q41
                replace kgx0 := ((bcell b).1 _ _ lt_gx).trans kgx0
                replace kgx1 := ((bcell b).1 _ _ lt_gx).trans kgx1
                replace lt_g4w := Nat.lt_of_lt_of_le lt_g4w b.size
                replace lt_gx := Nat.lt_of_lt_of_le lt_gx b.size
                replace HXr := Bx.mk (HXr.out.below b)
                replace HR2 := Bx.mk (HR2.out.below b)
                replace HL2 := Bx.mk (HL2.out.below b)
                replace bw := bw.trans (b.mono bw.size)
                clear b
                have HRF := Bx.mk bw
                clear bw
                go_wp2_with fail
                go_roundw
                case rel => exact ⟨k + 1, by omega, by go_num, HRF⟩
                case measure => simp [intOf]; omega
              · as_aux_lemma =>
                have lt_g4 := lt_g4w
                obtain ⟨j, hj⟩ : ∃ j, j + 1 = k := ⟨k - 1, by omega⟩
                have hkg : (k : Int) > 0 := by omega
                have hkj : (k : Int) - 1 = (j : Int) := by omega
                have hjl : (j : Int) < (L.length : Int) := by omega
                have hjw : IntKind.i64.wrap (j : Int) = (j : Int) := IntWalk.i64_in _ (by omega)
                have hj0 : (0 : Int) ≤ (j : Int) := by omega
                obtain ⟨x0, hx0⟩ : ∃ x0, L[j]? = some x0 := ⟨_, List.getElem?_eq_getElem (by omega)⟩
                have HCMP := HORD.out j x0 x hx0 (by rw [hj]; exact HXE.out)
                have HX0K : Bx (rhOk m x0 = true) := ⟨(HLm.out x0 (List.mem_of_getElem? hx0)).1⟩
                obtain ⟨gL3, B0, cB0, eL, lt_gP, kp0, kp1, hir0⟩ := HL2.out j x0 hx0
                injection eL with eL
                injection eL with eL
                subst eL
                have HX0r := Bx.mk hir0
                have hkp : 0 < k := by omega
                obtain ⟨T1, hT1⟩ : ∃ T1, T1 = fmT m x0 := ⟨_, rfl⟩
                obtain ⟨T2, hT2⟩ : ∃ T2, T2 = fmT m x := ⟨_, rfl⟩
                have HF1 : Bx (∀ A c W, IR W A x0 → Calls Tryz.prog 17 #[.agg #[.int .i64 m, .slice A x0.length c]] W fun e w' => e = .returned (.string T1) ∧ Below W.heap.size W w') := ⟨fun A c W h => by rw [hT1]; exact HFM.out x0 HX0K.out A c W h⟩
                have HF2 : Bx (∀ A c W, IR W A x → Calls Tryz.prog 17 #[.agg #[.int .i64 m, .slice A x.length c]] W fun e w' => e = .returned (.string T2) ∧ Below W.heap.size W w') := ⟨fun A c W h => by rw [hT2]; exact HFM.out x HXK.out A c W h⟩
                rw [← hT1, ← hT2] at HCMP
                clear hj hx0 hir0 hT1 hT2 HFM
                have lt_gL := lt_gP
                have hB : Bx (Below w35.heap.size w35 w35.drew) := ⟨(Below.refl _ _).drew⟩
                have hB0 : Bx (Below w35.heap.size w35 w35) := ⟨Below.refl _ _⟩
                have q40_d : w35.drew.cell? _ = _ := q40
                have q41_d : w35.drew.cell? _ = _ := q41
                have kgx0_d : w35.drew.cell? _ = _ := kgx0
                have kgx1_d : w35.drew.cell? _ = _ := kgx1
                have kp0_d : w35.drew.cell? _ = _ := kp0
                have kp1_d : w35.drew.cell? _ = _ := kp1
                refine wp_region_held_drew (S := fun w' => w'.cell? ⟨g4, 0, none⟩ = some (.int .i64 m) ∧ w'.cell? ⟨g4, 1, none⟩ = some (.slice Ar r.length cr) ∧ w'.cell? ⟨gx, 0, none⟩ = some (.int .i64 m) ∧ w'.cell? ⟨gx, 1, none⟩ = some (.slice BX x.length cX) ∧ w'.cell? ⟨gL, j * 2, none⟩ = some (.int .i64 m) ∧ w'.cell? ⟨gL, j * 2 + 1, none⟩ = some (.slice B0 x0.length cB0) ∧ Bx (Below w35.heap.size w35 w')) (by kernel_rfl) ?hS5000 (fun hHeld => ?rest5000)
                case hS5000 => (try dsimp only); (refine (fun (hK : Bx (Below w35.heap.size w35 _)) => ⟨((bcell hK.out).1 _ _ lt_g4).trans q40, ((bcell hK.out).1 _ _ lt_g4).trans q41, ((bcell hK.out).1 _ _ lt_gx).trans kgx0, ((bcell hK.out).1 _ _ lt_gx).trans kgx1, ((bcell hK.out).1 _ _ lt_gL).trans kp0, ((bcell hK.out).1 _ _ lt_gL).trans kp1, hK⟩) ?_; (first | with_reducible assumption | with_reducible exact bx_alloc (by with_reducible assumption) _ | with_reducible exact bx_drew (by with_reducible assumption) | with_reducible exact bx_drew (bx_alloc (by with_reducible assumption) _)))
                case rest5000 =>
                refine wpAnyH_take (i := 0) (v := ?v5001) (at_list rfl) (by kernel_rfl) (by kernel_rfl) (by kernel_rfl) (fun _ _ _ h => h) (Or.inl ⟨by rfl, ?hy5001⟩) (by assumption) ?rest5001
                case hy5001 => intro w hSw; (try dsimp only at hSw); go_simp; try (with_reducible rfl)
                case rest5001 =>
                try simp only [Act.put, List.setIfInBounds_toArray, List.set_cons_zero, List.set_cons_succ]
                refine wpAnyH_take (i := 1) (v := ?v5002) (at_list rfl) (by kernel_rfl) (by kernel_rfl) (by kernel_rfl) (fun _ _ _ h => h) (Or.inl ⟨by rfl, ?hy5002⟩) (by assumption) ?rest5002
                case hy5002 => intro w hSw; (try dsimp only at hSw); go_simp; try (with_reducible rfl)
                case rest5002 =>
                try simp only [Act.put, List.setIfInBounds_toArray, List.set_cons_zero, List.set_cons_succ]
                refine wpAnyH_ready (rs := [2]) (by kernel_rfl) (by simp) ?_
                refine AllReadyH.cons (at_list rfl) (fun K hK => ?_) AllReadyH.nil
                go_simp
                go_at_call 14; refine (HITY.out x HXL.out _ _ _ _ _ (by exact HR2.out.below (Bx.out (by (first | with_reducible assumption | with_reducible exact bx_alloc (by with_reducible assumption) _ | with_reducible exact bx_drew (by with_reducible assumption) | with_reducible exact bx_drew (bx_alloc (by with_reducible assumption) _))))) (by exact HXr.out.below (Bx.out (by (first | with_reducible assumption | with_reducible exact bx_alloc (by with_reducible assumption) _ | with_reducible exact bx_drew (by with_reducible assumption) | with_reducible exact bx_drew (bx_alloc (by with_reducible assumption) _)))))).mono ?_; rintro e w46 ⟨rfl, bw46⟩; have hBw46 : Bx (Below w35.heap.size w35 w46) := bx_to (by (first | with_reducible assumption | with_reducible exact bx_alloc (by with_reducible assumption) _ | with_reducible exact bx_drew (by with_reducible assumption) | with_reducible exact bx_drew (bx_alloc (by with_reducible assumption) _))) bw46; have hzw46 := bx_size hBw46; have q40_w46 := ((bcell hBw46.out).1 _ _ lt_g4).trans q40; have q41_w46 := ((bcell hBw46.out).1 _ _ lt_g4).trans q41; have kgx0_w46 := ((bcell hBw46.out).1 _ _ lt_gx).trans kgx0; have kgx1_w46 := ((bcell hBw46.out).1 _ _ lt_gx).trans kgx1; have kp0_w46 := ((bcell hBw46.out).1 _ _ lt_gL).trans kp0; have kp1_w46 := ((bcell hBw46.out).1 _ _ lt_gL).trans kp1
                refine hK.out _ _ ?hS5003 (fun hHeld => ?rest5003)
                case hS5003 => (try dsimp only); (refine (fun (hK : Bx (Below w35.heap.size w35 _)) => ⟨((bcell hK.out).1 _ _ lt_g4).trans q40, ((bcell hK.out).1 _ _ lt_g4).trans q41, ((bcell hK.out).1 _ _ lt_gx).trans kgx0, ((bcell hK.out).1 _ _ lt_gx).trans kgx1, ((bcell hK.out).1 _ _ lt_gL).trans kp0, ((bcell hK.out).1 _ _ lt_gL).trans kp1, hK⟩) ?_; (first | with_reducible assumption | with_reducible exact bx_alloc (by with_reducible assumption) _ | with_reducible exact bx_drew (by with_reducible assumption) | with_reducible exact bx_drew (bx_alloc (by with_reducible assumption) _)))
                case rest5003 =>
                clear hK K
                try simp only [Act.put, List.setIfInBounds_toArray, List.set_cons_zero, List.set_cons_succ]
                refine wpAnyH_take (i := 3) (v := ?v5004) (at_list rfl) (by kernel_rfl) (by kernel_rfl) (by kernel_rfl) (fun _ _ _ h => h) (Or.inl ⟨by rfl, ?hy5004⟩) (by assumption) ?rest5004
                case hy5004 => intro w hSw; (try dsimp only at hSw); go_simp; try (with_reducible rfl)
                case rest5004 =>
                try simp only [Act.put, List.setIfInBounds_toArray, List.set_cons_zero, List.set_cons_succ]
                refine wpAnyH_take (i := 4) (v := ?v5005) (at_list rfl) (by kernel_rfl) (by kernel_rfl) (by kernel_rfl) (fun _ _ _ h => h) (Or.inl ⟨by rfl, ?hy5005⟩) (by assumption) ?rest5005
                case hy5005 => intro w hSw; (try dsimp only at hSw); go_simp; try (with_reducible rfl)
                case rest5005 =>
                try simp only [Act.put, List.setIfInBounds_toArray, List.set_cons_zero, List.set_cons_succ]
                refine wpAnyH_take (i := 5) (v := ?v5006) (at_list rfl) (by kernel_rfl) (by kernel_rfl) (by kernel_rfl) (fun _ _ _ h => h) (Or.inl ⟨by rfl, ?hy5006⟩) (by assumption) ?rest5006
                case hy5006 => intro w hSw; (try dsimp only at hSw); go_simp; try (with_reducible rfl)
                case rest5006 =>
                try simp only [Act.put, List.setIfInBounds_toArray, List.set_cons_zero, List.set_cons_succ]
                refine wpAnyH_ready (rs := [6]) (by kernel_rfl) (by simp) ?_
                refine AllReadyH.cons (at_list rfl) (fun K hK => ?_) AllReadyH.nil
                go_simp
                go_at_call 16; refine (HHBY.out x HXL.out _ _ _ (by exact HXr.out.below (Bx.out (by (first | with_reducible assumption | with_reducible exact bx_alloc (by with_reducible assumption) _ | with_reducible exact bx_drew (by with_reducible assumption) | with_reducible exact bx_drew (bx_alloc (by with_reducible assumption) _)))))).mono ?_; rintro e w47 ⟨rfl, bw47⟩; have hBw47 : Bx (Below w35.heap.size w35 w47) := bx_to (by (first | with_reducible assumption | with_reducible exact bx_alloc (by with_reducible assumption) _ | with_reducible exact bx_drew (by with_reducible assumption) | with_reducible exact bx_drew (bx_alloc (by with_reducible assumption) _))) bw47; have hzw47 := bx_size hBw47; have q40_w47 := ((bcell hBw47.out).1 _ _ lt_g4).trans q40; have q41_w47 := ((bcell hBw47.out).1 _ _ lt_g4).trans q41; have kgx0_w47 := ((bcell hBw47.out).1 _ _ lt_gx).trans kgx0; have kgx1_w47 := ((bcell hBw47.out).1 _ _ lt_gx).trans kgx1; have kp0_w47 := ((bcell hBw47.out).1 _ _ lt_gL).trans kp0; have kp1_w47 := ((bcell hBw47.out).1 _ _ lt_gL).trans kp1
                refine hK.out _ _ ?hS5007 (fun hHeld => ?rest5007)
                case hS5007 => (try dsimp only); (refine (fun (hK : Bx (Below w35.heap.size w35 _)) => ⟨((bcell hK.out).1 _ _ lt_g4).trans q40, ((bcell hK.out).1 _ _ lt_g4).trans q41, ((bcell hK.out).1 _ _ lt_gx).trans kgx0, ((bcell hK.out).1 _ _ lt_gx).trans kgx1, ((bcell hK.out).1 _ _ lt_gL).trans kp0, ((bcell hK.out).1 _ _ lt_gL).trans kp1, hK⟩) ?_; (first | with_reducible assumption | with_reducible exact bx_alloc (by with_reducible assumption) _ | with_reducible exact bx_drew (by with_reducible assumption) | with_reducible exact bx_drew (bx_alloc (by with_reducible assumption) _)))
                case rest5007 =>
                clear hK K
                try simp only [Act.put, List.setIfInBounds_toArray, List.set_cons_zero, List.set_cons_succ]
                refine wpAnyH_take (i := 7) (v := ?v5008) (at_list rfl) (by kernel_rfl) (by kernel_rfl) (by kernel_rfl) (fun _ _ _ h => h) (Or.inl ⟨by rfl, ?hy5008⟩) (by assumption) ?rest5008
                case hy5008 => intro w hSw; (try dsimp only at hSw); go_simp; try (with_reducible rfl)
                case rest5008 =>
                try simp only [Act.put, List.setIfInBounds_toArray, List.set_cons_zero, List.set_cons_succ]
                refine wpAnyH_take (i := 8) (v := ?v5009) (at_list rfl) (by kernel_rfl) (by kernel_rfl) (by kernel_rfl) (fun _ _ _ h => h) (Or.inl ⟨by rfl, ?hy5009⟩) (by assumption) ?rest5009
                case hy5009 => intro w hSw; (try dsimp only at hSw); go_simp; try (with_reducible rfl)
                case rest5009 =>
                try simp only [Act.put, List.setIfInBounds_toArray, List.set_cons_zero, List.set_cons_succ]
                refine wpAnyH_take (i := 9) (v := ?v5010) (at_list rfl) (by kernel_rfl) (by kernel_rfl) (by kernel_rfl) (fun _ _ _ h => h) (Or.inl ⟨by rfl, ?hy5010⟩) (by assumption) ?rest5010
                case hy5010 => intro w hSw; (try dsimp only at hSw); go_simp; try (with_reducible rfl)
                case rest5010 =>
                try simp only [Act.put, List.setIfInBounds_toArray, List.set_cons_zero, List.set_cons_succ]
                refine wpAnyH_take (i := 10) (v := ?v5011) (at_list rfl) (by kernel_rfl) (by kernel_rfl) (by kernel_rfl) (fun _ _ _ h => h) (Or.inl ⟨by rfl, ?hy5011⟩) (by assumption) ?rest5011
                case hy5011 => intro w hSw; (try dsimp only at hSw); go_simp; try (with_reducible rfl)
                case rest5011 =>
                try simp only [Act.put, List.setIfInBounds_toArray, List.set_cons_zero, List.set_cons_succ]
                refine wpAnyH_take (i := 11) (v := .bool true) (at_list rfl) (by kernel_rfl) (by kernel_rfl) (by kernel_rfl) (fun _ _ _ h => h) (Or.inl ⟨by rfl, ?hy5012⟩) (by assumption) ?rest5012
                case hy5012 => intro w hSw; (try dsimp only at hSw); go_simp; try (with_reducible rfl)
                case rest5012 =>
                try simp only [Act.put, List.setIfInBounds_toArray, List.set_cons_zero, List.set_cons_succ]
                refine wpAnyH_take (i := 12) (v := .bool true) (at_list rfl) (by kernel_rfl) (by kernel_rfl) (by kernel_rfl) (fun _ _ _ h => h) (Or.inl ⟨by rfl, ?hy5013⟩) (by assumption) ?rest5013
                case hy5013 => intro w hSw; (try dsimp only at hSw); go_simp; try (with_reducible rfl)
                case rest5013 =>
                try simp only [Act.put, List.setIfInBounds_toArray, List.set_cons_zero, List.set_cons_succ]
                refine wpAnyH_take (i := 13) (v := ?v5014) (at_list rfl) (by kernel_rfl) (by kernel_rfl) (by kernel_rfl) (fun _ _ _ h => h) (Or.inl ⟨by rfl, ?hy5014⟩) (by assumption) ?rest5014
                case hy5014 => intro w hSw; (try dsimp only at hSw); go_simp; try (with_reducible rfl)
                case rest5014 =>
                try simp only [Act.put, List.setIfInBounds_toArray, List.set_cons_zero, List.set_cons_succ]
                refine wpAnyH_take (i := 14) (v := ?v5015) (at_list rfl) (by kernel_rfl) (by kernel_rfl) (by kernel_rfl) (fun _ _ _ h => h) (Or.inl ⟨by rfl, ?hy5015⟩) (by assumption) ?rest5015
                case hy5015 => intro w hSw; (try dsimp only at hSw); go_simp; try (with_reducible rfl)
                case rest5015 =>
                try simp only [Act.put, List.setIfInBounds_toArray, List.set_cons_zero, List.set_cons_succ]
                refine wpAnyH_take (i := 15) (v := ?v5016) (at_list rfl) (by kernel_rfl) (by kernel_rfl) (by kernel_rfl) (fun _ _ _ h => h) (Or.inl ⟨by rfl, ?hy5016⟩) (by assumption) ?rest5016
                case hy5016 => intro w hSw; (try dsimp only at hSw); go_simp; try (with_reducible rfl)
                case rest5016 =>
                try simp only [Act.put, List.setIfInBounds_toArray, List.set_cons_zero, List.set_cons_succ]
                refine wpAnyH_take (i := 16) (v := ?v5017) (at_list rfl) (by kernel_rfl) (by kernel_rfl) (by kernel_rfl) (fun _ _ _ h => h) (Or.inl ⟨by rfl, ?hy5017⟩) (by assumption) ?rest5017
                case hy5017 => intro w hSw; (try dsimp only at hSw); go_simp; try (with_reducible rfl)
                case rest5017 =>
                try simp only [Act.put, List.setIfInBounds_toArray, List.set_cons_zero, List.set_cons_succ]
                refine wpAnyH_take (i := 17) (v := ?v5018) (at_list rfl) (by kernel_rfl) (by kernel_rfl) (by kernel_rfl) (fun _ _ _ h => h) (Or.inl ⟨by rfl, ?hy5018⟩) (by assumption) ?rest5018
                case hy5018 => intro w hSw; (try dsimp only at hSw); go_simp; try (with_reducible rfl)
                case rest5018 =>
                try simp only [Act.put, List.setIfInBounds_toArray, List.set_cons_zero, List.set_cons_succ]
                refine wpAnyH_take (i := 19) (v := ?v5019) (at_list rfl) (by kernel_rfl) (by kernel_rfl) (by kernel_rfl) (fun _ _ _ h => h) (Or.inl ⟨by rfl, ?hy5019⟩) (by assumption) ?rest5019
                case hy5019 => intro w hSw; (try dsimp only at hSw); go_simp; try (with_reducible rfl)
                case rest5019 =>
                try simp only [Act.put, List.setIfInBounds_toArray, List.set_cons_zero, List.set_cons_succ]
                refine wpAnyH_ready (rs := [18]) (by kernel_rfl) (by simp) ?_
                refine AllReadyH.cons (at_list rfl) (fun K hK => ?_) AllReadyH.nil
                go_simp
                go_at_call 17; refine (HF1.out _ _ _ (by exact HX0r.out.below (Bx.out (by (first | with_reducible assumption | with_reducible exact bx_alloc (by with_reducible assumption) _ | with_reducible exact bx_drew (by with_reducible assumption) | with_reducible exact bx_drew (bx_alloc (by with_reducible assumption) _)))))).mono ?_; rintro e w48 ⟨rfl, bw48⟩; have hBw48 : Bx (Below w35.heap.size w35 w48) := bx_to (by (first | with_reducible assumption | with_reducible exact bx_alloc (by with_reducible assumption) _ | with_reducible exact bx_drew (by with_reducible assumption) | with_reducible exact bx_drew (bx_alloc (by with_reducible assumption) _))) bw48; have hzw48 := bx_size hBw48; have q40_w48 := ((bcell hBw48.out).1 _ _ lt_g4).trans q40; have q41_w48 := ((bcell hBw48.out).1 _ _ lt_g4).trans q41; have kgx0_w48 := ((bcell hBw48.out).1 _ _ lt_gx).trans kgx0; have kgx1_w48 := ((bcell hBw48.out).1 _ _ lt_gx).trans kgx1; have kp0_w48 := ((bcell hBw48.out).1 _ _ lt_gL).trans kp0; have kp1_w48 := ((bcell hBw48.out).1 _ _ lt_gL).trans kp1
                refine hK.out _ _ ?hS5020 (fun hHeld => ?rest5020)
                case hS5020 => (try dsimp only); (refine (fun (hK : Bx (Below w35.heap.size w35 _)) => ⟨((bcell hK.out).1 _ _ lt_g4).trans q40, ((bcell hK.out).1 _ _ lt_g4).trans q41, ((bcell hK.out).1 _ _ lt_gx).trans kgx0, ((bcell hK.out).1 _ _ lt_gx).trans kgx1, ((bcell hK.out).1 _ _ lt_gL).trans kp0, ((bcell hK.out).1 _ _ lt_gL).trans kp1, hK⟩) ?_; (first | with_reducible assumption | with_reducible exact bx_alloc (by with_reducible assumption) _ | with_reducible exact bx_drew (by with_reducible assumption) | with_reducible exact bx_drew (bx_alloc (by with_reducible assumption) _)))
                case rest5020 =>
                clear hK K
                try simp only [Act.put, List.setIfInBounds_toArray, List.set_cons_zero, List.set_cons_succ]
                refine wpAnyH_ready (rs := [20]) (by kernel_rfl) (by simp) ?_
                refine AllReadyH.cons (at_list rfl) (fun K hK => ?_) AllReadyH.nil
                go_simp
                go_at_call 17; refine (HF2.out _ _ _ (by exact HXr.out.below (Bx.out (by (first | with_reducible assumption | with_reducible exact bx_alloc (by with_reducible assumption) _ | with_reducible exact bx_drew (by with_reducible assumption) | with_reducible exact bx_drew (bx_alloc (by with_reducible assumption) _)))))).mono ?_; rintro e w49 ⟨rfl, bw49⟩; have hBw49 : Bx (Below w35.heap.size w35 w49) := bx_to (by (first | with_reducible assumption | with_reducible exact bx_alloc (by with_reducible assumption) _ | with_reducible exact bx_drew (by with_reducible assumption) | with_reducible exact bx_drew (bx_alloc (by with_reducible assumption) _))) bw49; have hzw49 := bx_size hBw49; have q40_w49 := ((bcell hBw49.out).1 _ _ lt_g4).trans q40; have q41_w49 := ((bcell hBw49.out).1 _ _ lt_g4).trans q41; have kgx0_w49 := ((bcell hBw49.out).1 _ _ lt_gx).trans kgx0; have kgx1_w49 := ((bcell hBw49.out).1 _ _ lt_gx).trans kgx1; have kp0_w49 := ((bcell hBw49.out).1 _ _ lt_gL).trans kp0; have kp1_w49 := ((bcell hBw49.out).1 _ _ lt_gL).trans kp1
                refine hK.out _ _ ?hS5021 (fun hHeld => ?rest5021)
                case hS5021 => (try dsimp only); (refine (fun (hK : Bx (Below w35.heap.size w35 _)) => ⟨((bcell hK.out).1 _ _ lt_g4).trans q40, ((bcell hK.out).1 _ _ lt_g4).trans q41, ((bcell hK.out).1 _ _ lt_gx).trans kgx0, ((bcell hK.out).1 _ _ lt_gx).trans kgx1, ((bcell hK.out).1 _ _ lt_gL).trans kp0, ((bcell hK.out).1 _ _ lt_gL).trans kp1, hK⟩) ?_; (first | with_reducible assumption | with_reducible exact bx_alloc (by with_reducible assumption) _ | with_reducible exact bx_drew (by with_reducible assumption) | with_reducible exact bx_drew (bx_alloc (by with_reducible assumption) _)))
                case rest5021 =>
                clear hK K
                try simp only [Act.put, List.setIfInBounds_toArray, List.set_cons_zero, List.set_cons_succ]
                refine wpAnyH_take (i := 21) (v := .bool false) (at_list rfl) (by kernel_rfl) (by kernel_rfl) (by kernel_rfl) (fun _ _ _ h => h) (Or.inl ⟨by rfl, ?hy5022⟩) (by assumption) ?rest5022
                case hy5022 => intro w hSw; (try dsimp only at hSw); go_simp; try (with_reducible rfl)
                case rest5022 =>
                try simp only [Act.put, List.setIfInBounds_toArray, List.set_cons_zero, List.set_cons_succ]
                refine wpAnyH_take (i := 22) (v := ?v5023) (at_list rfl) (by kernel_rfl) (by kernel_rfl) (by kernel_rfl) (fun _ _ _ h => h) (Or.inl ⟨by rfl, ?hy5023⟩) (by assumption) ?rest5023
                case hy5023 => intro w hSw; (try dsimp only at hSw); go_simp; try (with_reducible rfl)
                case rest5023 =>
                try simp only [Act.put, List.setIfInBounds_toArray, List.set_cons_zero, List.set_cons_succ]
                refine wpAnyH_take (i := 23) (v := ?v5024) (at_list rfl) (by kernel_rfl) (by kernel_rfl) (by kernel_rfl) (fun _ _ _ h => h) (Or.inl ⟨by rfl, ?hy5024⟩) (by assumption) ?rest5024
                case hy5024 => intro w hSw; (try dsimp only at hSw); go_simp; try (with_reducible rfl)
                case rest5024 =>
                try simp only [Act.put, List.setIfInBounds_toArray, List.set_cons_zero, List.set_cons_succ]
                refine wpAnyH_take (i := 24) (v := ?v5025) (at_list rfl) (by kernel_rfl) (by kernel_rfl) (by kernel_rfl) (fun _ _ _ h => h) (Or.inl ⟨by rfl, ?hy5025⟩) (by assumption) ?rest5025
                case hy5025 => intro w hSw; (try dsimp only at hSw); go_simp; try (with_reducible rfl)
                case rest5025 =>
                try simp only [Act.put, List.setIfInBounds_toArray, List.set_cons_zero, List.set_cons_succ]
                refine wpAnyH_take (i := 25) (v := ?v5026) (at_list rfl) (by kernel_rfl) (by kernel_rfl) (by kernel_rfl) (fun _ _ _ h => h) (Or.inl ⟨by rfl, ?hy5026⟩) (by assumption) ?rest5026
                case hy5026 => intro w hSw; (try dsimp only at hSw); go_simp; try (with_reducible rfl)
                case rest5026 =>
                try simp only [Act.put, List.setIfInBounds_toArray, List.set_cons_zero, List.set_cons_succ]
                refine wpAnyH_take (i := 26) (v := .bool false) (at_list rfl) (by kernel_rfl) (by kernel_rfl) (by kernel_rfl) (fun _ _ _ h => h) (Or.inl ⟨by rfl, ?hy5027⟩) (by assumption) ?rest5027
                case hy5027 => intro w hSw; (try dsimp only at hSw); go_simp; try (with_reducible rfl)
                case rest5027 =>
                try simp only [Act.put, List.setIfInBounds_toArray, List.set_cons_zero, List.set_cons_succ]
                refine wpAnyH_take (i := 27) (v := .bool false) (at_list rfl) (by kernel_rfl) (by kernel_rfl) (by kernel_rfl) (fun _ _ _ h => h) (Or.inl ⟨by rfl, ?hy5028⟩) (by assumption) ?rest5028
                case hy5028 => intro w hSw; (try dsimp only at hSw); go_simp; try (with_reducible rfl)
                case rest5028 =>
                try simp only [Act.put, List.setIfInBounds_toArray, List.set_cons_zero, List.set_cons_succ]
                refine wpAnyH_take (i := 28) (v := undef) (at_list rfl) (by kernel_rfl) (by kernel_rfl) (by kernel_rfl) (fun _ _ _ h => h) (Or.inr ⟨by rfl, rfl⟩) (by assumption) ?rest5029
                case rest5029 =>
                try simp only [Act.put, List.setIfInBounds_toArray, List.set_cons_zero, List.set_cons_succ]
                refine wpAnyH_take (i := 29) (v := undef) (at_list rfl) (by kernel_rfl) (by kernel_rfl) (by kernel_rfl) (fun _ _ _ h => h) (Or.inr ⟨by rfl, rfl⟩) (by assumption) ?rest5030
                case rest5030 =>
                try simp only [Act.put, List.setIfInBounds_toArray, List.set_cons_zero, List.set_cons_succ]
                refine wpAnyH_take (i := 30) (v := undef) (at_list rfl) (by kernel_rfl) (by kernel_rfl) (by kernel_rfl) (fun _ _ _ h => h) (Or.inr ⟨by rfl, rfl⟩) (by assumption) ?rest5031
                case rest5031 =>
                try simp only [Act.put, List.setIfInBounds_toArray, List.set_cons_zero, List.set_cons_succ]
                refine wpAnyH_take (i := 31) (v := undef) (at_list rfl) (by kernel_rfl) (by kernel_rfl) (by kernel_rfl) (fun _ _ _ h => h) (Or.inr ⟨by rfl, rfl⟩) (by assumption) ?rest5032
                case rest5032 =>
                try simp only [Act.put, List.setIfInBounds_toArray, List.set_cons_zero, List.set_cons_succ]
                refine wpAnyH_take (i := 32) (v := ?v5033) (at_list rfl) (by kernel_rfl) (by kernel_rfl) (by kernel_rfl) (fun _ _ _ h => h) (Or.inl ⟨by rfl, ?hy5033⟩) (by assumption) ?rest5033
                case hy5033 => intro w hSw; (try dsimp only at hSw); go_simp; try (with_reducible rfl)
                case rest5033 =>
                try simp only [Act.put, List.setIfInBounds_toArray, List.set_cons_zero, List.set_cons_succ]
                refine wpAnyH_take (i := 33) (v := ?v5034) (at_list rfl) (by kernel_rfl) (by kernel_rfl) (by kernel_rfl) (fun _ _ _ h => h) (Or.inl ⟨by rfl, ?hy5034⟩) (by assumption) ?rest5034
                case hy5034 => intro w hSw; (try dsimp only at hSw); go_simp; try (with_reducible rfl)
                case rest5034 =>
                try simp only [Act.put, List.setIfInBounds_toArray, List.set_cons_zero, List.set_cons_succ]
                refine wpAnyH_done (by kernel_rfl) ?_ _
                have b := hBw49.out
                replace q40 := ((bcell b).1 _ _ lt_g4w).trans q40
                replace q41 := ((bcell b).1 _ _ lt_g4w).trans q41
                replace kgx0 := ((bcell b).1 _ _ lt_gx).trans kgx0
                replace kgx1 := ((bcell b).1 _ _ lt_gx).trans kgx1
                replace lt_g4w := Nat.lt_of_lt_of_le lt_g4w b.size
                replace lt_gx := Nat.lt_of_lt_of_le lt_gx b.size
                replace HXr := Bx.mk (HXr.out.below b)
                replace HR2 := Bx.mk (HR2.out.below b)
                replace HL2 := Bx.mk (HL2.out.below b)
                replace bw := bw.trans (b.mono bw.size)
                clear b
                have HRF := Bx.mk bw
                clear bw
                go_wp2_with fail
                go_roundw
                case rel => exact ⟨k + 1, by omega, by go_num, HRF⟩
                case measure => simp [intOf]; omega
          have hli : ¬ (k : Int) < (L.length : Int) := by omega
          have b := HRr.out
          clear HRr hlt hk
          replace kg40 := ((bcell b).1 _ _ lt_g4).trans kg40
          replace kg41 := ((bcell b).1 _ _ lt_g4).trans kg41
          replace kg50 := ((bcell b).1 _ _ lt_g5).trans kg50
          replace kg51 := ((bcell b).1 _ _ lt_g5).trans kg51
          replace kg70 := ((bcell b).1 _ _ lt_g7).trans kg70
          replace kg71 := ((bcell b).1 _ _ lt_g7).trans kg71
          replace lt_g4 := Nat.lt_of_lt_of_le lt_g4 b.size
          replace lt_g5 := Nat.lt_of_lt_of_le lt_g5 b.size
          replace lt_g7 := Nat.lt_of_lt_of_le lt_g7 b.size
          replace lt_gL := Nat.lt_of_lt_of_le lt_gL b.size
          replace HR := Bx.mk (HR.out.below b)
          replace HY := Bx.mk (HY.out.below b)
          replace HSr := Bx.mk (HSr.out.below b)
          replace HLr := Bx.mk (HLr.out.below b)
          replace HB := Bx.mk (HB.out.below b)
          replace bw := bw.trans (b.mono bw.size)
          clear b
          go_wp2_with fail
          refine (makeNum_any _ _ _ 60 _ (by omega) (by exact HB.out)).mono ?_
          rintro e w50 ⟨q3, hq3, rfl, b⟩
          replace kg40 := ((bcell b).1 _ _ lt_g4).trans kg40
          replace kg41 := ((bcell b).1 _ _ lt_g4).trans kg41
          replace kg50 := ((bcell b).1 _ _ lt_g5).trans kg50
          replace kg51 := ((bcell b).1 _ _ lt_g5).trans kg51
          replace kg70 := ((bcell b).1 _ _ lt_g7).trans kg70
          replace kg71 := ((bcell b).1 _ _ lt_g7).trans kg71
          replace lt_g4 := Nat.lt_of_lt_of_le lt_g4 b.size
          replace lt_g5 := Nat.lt_of_lt_of_le lt_g5 b.size
          replace lt_g7 := Nat.lt_of_lt_of_le lt_g7 b.size
          replace lt_gL := Nat.lt_of_lt_of_le lt_gL b.size
          replace HR := Bx.mk (HR.out.below b)
          replace HY := Bx.mk (HY.out.below b)
          replace HSr := Bx.mk (HSr.out.below b)
          replace HLr := Bx.mk (HLr.out.below b)
          replace HB := Bx.mk (HB.out.below b)
          replace bw := bw.trans (b.mono bw.size)
          clear b
          obtain ⟨u0, hu0⟩ : ∃ u0 : Nat, u0 = m - 1 := ⟨_, rfl⟩
          have hui : (m : Int) - 1 = (u0 : Int) := by omega
          obtain ⟨M, hM⟩ : ∃ M : Nat, M = max 1 u0 := ⟨_, rfl⟩
          have hmx : max (1 : Int) (u0 : Int) = (M : Int) := by omega
          have hM1 : 1 ≤ M := by omega
          have hMz : ¬ (M : Int) = 0 := by omega
          have hMz2 : ¬ M = 0 := by omega
          obtain ⟨v, hv⟩ : ∃ v : Nat, v = q3 % M := ⟨_, rfl⟩
          have hvM : v < M := by rw [hv]; exact Nat.mod_lt _ (by omega)
          have hve : (q3 : Int) % (M : Int) = (v : Int) := by rw [hv]; exact (Int.natCast_emod q3 M).symm
          have hvt : (q3 : Int).tmod (M : Int) = (v : Int) := by rw [hv]; exact (Int.ofNat_tmod q3 M).symm
          obtain ⟨u, hu⟩ : ∃ u : Nat, u = 1 + v := ⟨_, rfl⟩
          have hue : (1 : Int) + (v : Int) = (u : Int) := by omega
          have hub : Bx (1 ≤ u ∧ u ≤ max 1 (m - 1)) := ⟨by omega⟩
          have hul : u ≤ 24 := by omega
          have hM24 : M ≤ 24 := by omega
          clear hu hv hM hu0
          go_wp2_with fail
          clear hue hve hvt hvM hMz hMz2 hmx hui
          by_cases hgu : Nat.gcd u m = 1
          · as_aux_lemma =>
            obtain ⟨ST, hST⟩ : ∃ ST, ST = stL (m : Int) r (u : Int) := ⟨_, rfl⟩
            have HSTR : Bx (∀ A c W, IR W A r → Calls Tryz.prog 19 #[.agg #[.int .i64 m, .slice A r.length c], .int .i64 u] W (GivesRB W m ST true)) := ⟨fun A c W h => by rw [hST]; exact stretch_yes m A c r m u rfl hub.out hgu W HROK.out h⟩
            have HMX : Bx (∀ A c W, IR W A ST → Calls Tryz.prog 9 #[.agg #[.int .i64 m, .slice A ST.length c]] W fun e w' => e = .returned (.bool true) ∧ Below W.heap.size W w') := ⟨fun A c W h => by
              have := implMb_any m A c ST W hm64.out h
              rw [hST, st_both hn12 hub.out hgu HROK.out, HBE.out, ← hST] at this
              exact this⟩
            have HTX : Bx (∀ A B c d W, IR W A ST → IR W B y → Calls Tryz.prog 14 #[.agg #[.int .i64 m, .slice A ST.length c], .agg #[.int .i64 m, .slice B y.length d]] W fun e w' => e = .returned (.bool true) ∧ Below W.heap.size W w') := ⟨fun A B c d W h1 h2 => by
              have hok2 : rhOk m ST = true := by rw [hST]; exact st_ok hn1 (by omega) r _
              have := implIsTiling_any m m A B c d ST y W hm64.out hm64.out h1 h2
              rw [btw_tiles hok2 HYOK.out, show tilesB m ST y = true by rw [hST]; exact st_tile hn12 hub.out hgu HROK.out HYOK.out HYT.out] at this
              exact this⟩
            clear hST hgu
            refine (HSTR.out _ _ _ (by exact HR.out)).mono ?_
            rintro e w51 ⟨A14, c14, rfl, io, b⟩
            replace kg40 := ((bcell b).1 _ _ lt_g4).trans kg40
            replace kg41 := ((bcell b).1 _ _ lt_g4).trans kg41
            replace kg50 := ((bcell b).1 _ _ lt_g5).trans kg50
            replace kg51 := ((bcell b).1 _ _ lt_g5).trans kg51
            replace kg70 := ((bcell b).1 _ _ lt_g7).trans kg70
            replace kg71 := ((bcell b).1 _ _ lt_g7).trans kg71
            replace lt_g4 := Nat.lt_of_lt_of_le lt_g4 b.size
            replace lt_g5 := Nat.lt_of_lt_of_le lt_g5 b.size
            replace lt_g7 := Nat.lt_of_lt_of_le lt_g7 b.size
            replace lt_gL := Nat.lt_of_lt_of_le lt_gL b.size
            replace HR := Bx.mk (HR.out.below b)
            replace HY := Bx.mk (HY.out.below b)
            replace HSr := Bx.mk (HSr.out.below b)
            replace HLr := Bx.mk (HLr.out.below b)
            replace HB := Bx.mk (HB.out.below b)
            replace bw := bw.trans (b.mono bw.size)
            clear b
            have HXr := Bx.mk io.reads
            clear io
            obtain ⟨w52, hW⟩ : ∃ w52, w52 = w51.alloc (.cells #[.int .i64 m, .slice A14 ST.length c14] 26) := ⟨_, rfl⟩
            obtain ⟨g14, hg⟩ : ∃ g14, g14 = w51.heap.size := ⟨_, rfl⟩
            have b : Below w51.heap.size w51 w52 := by rw [hW]; exact below_alloc _ _
            have kg140 : w52.cell? ⟨g14, 0, none⟩ = some (.int .i64 m) := by rw [hW, hg]; simp [go_sem]
            have kg141 : w52.cell? ⟨g14, 1, none⟩ = some (.slice A14 ST.length c14) := by rw [hW, hg]; simp [go_sem]
            have lt_g14 : g14 < w52.heap.size := by rw [hW, hg]; simp
            replace kg40 := ((bcell b).1 _ _ lt_g4).trans kg40
            replace kg41 := ((bcell b).1 _ _ lt_g4).trans kg41
            replace kg50 := ((bcell b).1 _ _ lt_g5).trans kg50
            replace kg51 := ((bcell b).1 _ _ lt_g5).trans kg51
            replace kg70 := ((bcell b).1 _ _ lt_g7).trans kg70
            replace kg71 := ((bcell b).1 _ _ lt_g7).trans kg71
            replace lt_g4 := Nat.lt_of_lt_of_le lt_g4 b.size
            replace lt_g5 := Nat.lt_of_lt_of_le lt_g5 b.size
            replace lt_g7 := Nat.lt_of_lt_of_le lt_g7 b.size
            replace lt_gL := Nat.lt_of_lt_of_le lt_gL b.size
            replace HR := Bx.mk (HR.out.below b)
            replace HY := Bx.mk (HY.out.below b)
            replace HSr := Bx.mk (HSr.out.below b)
            replace HLr := Bx.mk (HLr.out.below b)
            replace HXr := Bx.mk (HXr.out.below b)
            replace HB := Bx.mk (HB.out.below b)
            replace bw := bw.trans (b.mono bw.size)
            clear b
            go_upto_region 24 with (fail)
            rw [← hW, ← hg]
            clear hW hg
            go_wp2_with fail
            refine (HMX.out _ _ _ (by exact HXr.out)).mono ?_
            rintro e w53 ⟨rfl, b⟩
            replace kg40 := ((bcell b).1 _ _ lt_g4).trans kg40
            replace kg41 := ((bcell b).1 _ _ lt_g4).trans kg41
            replace kg50 := ((bcell b).1 _ _ lt_g5).trans kg50
            replace kg51 := ((bcell b).1 _ _ lt_g5).trans kg51
            replace kg70 := ((bcell b).1 _ _ lt_g7).trans kg70
            replace kg71 := ((bcell b).1 _ _ lt_g7).trans kg71
            replace kg140 := ((bcell b).1 _ _ lt_g14).trans kg140
            replace kg141 := ((bcell b).1 _ _ lt_g14).trans kg141
            replace lt_g4 := Nat.lt_of_lt_of_le lt_g4 b.size
            replace lt_g5 := Nat.lt_of_lt_of_le lt_g5 b.size
            replace lt_g7 := Nat.lt_of_lt_of_le lt_g7 b.size
            replace lt_gL := Nat.lt_of_lt_of_le lt_gL b.size
            replace lt_g14 := Nat.lt_of_lt_of_le lt_g14 b.size
            replace HR := Bx.mk (HR.out.below b)
            replace HY := Bx.mk (HY.out.below b)
            replace HSr := Bx.mk (HSr.out.below b)
            replace HLr := Bx.mk (HLr.out.below b)
            replace HXr := Bx.mk (HXr.out.below b)
            replace HB := Bx.mk (HB.out.below b)
            replace bw := bw.trans (b.mono bw.size)
            clear b
            go_wp2_with fail
            refine (HTX.out _ _ _ _ _ (by exact HXr.out) (by exact HY.out)).mono ?_
            rintro e w54 ⟨rfl, b⟩
            replace kg40 := ((bcell b).1 _ _ lt_g4).trans kg40
            replace kg41 := ((bcell b).1 _ _ lt_g4).trans kg41
            replace kg50 := ((bcell b).1 _ _ lt_g5).trans kg50
            replace kg51 := ((bcell b).1 _ _ lt_g5).trans kg51
            replace kg70 := ((bcell b).1 _ _ lt_g7).trans kg70
            replace kg71 := ((bcell b).1 _ _ lt_g7).trans kg71
            replace kg140 := ((bcell b).1 _ _ lt_g14).trans kg140
            replace kg141 := ((bcell b).1 _ _ lt_g14).trans kg141
            replace lt_g4 := Nat.lt_of_lt_of_le lt_g4 b.size
            replace lt_g5 := Nat.lt_of_lt_of_le lt_g5 b.size
            replace lt_g7 := Nat.lt_of_lt_of_le lt_g7 b.size
            replace lt_gL := Nat.lt_of_lt_of_le lt_gL b.size
            replace lt_g14 := Nat.lt_of_lt_of_le lt_g14 b.size
            replace HR := Bx.mk (HR.out.below b)
            replace HY := Bx.mk (HY.out.below b)
            replace HSr := Bx.mk (HSr.out.below b)
            replace HLr := Bx.mk (HLr.out.below b)
            replace HXr := Bx.mk (HXr.out.below b)
            replace HB := Bx.mk (HB.out.below b)
            replace bw := bw.trans (b.mono bw.size)
            clear b
            go_upto_region 26 with (fail)
            by_cases hm1 : m = 1
            · have hmb : (((m : Nat) : Int) == 1) = true := by rw [beq_iff_eq]; omega
              go_wp2_with fail
              go_ret
              exact ⟨rfl, bw⟩
            have hmb : (((m : Nat) : Int) == 1) = false := by rw [beq_eq_false_iff_ne]; omega
            have hrb : (((r.length : Nat) : Int) == 0) = false := by rw [beq_eq_false_iff_ne]; omega
            go_wp2_with fail
            refine (HTSl.out _ _ _ _ _ (by exact HR.out) (by exact HSr.out)).mono ?_
            rintro e w55 ⟨rfl, b⟩
            replace kg40 := ((bcell b).1 _ _ lt_g4).trans kg40
            replace kg41 := ((bcell b).1 _ _ lt_g4).trans kg41
            replace kg50 := ((bcell b).1 _ _ lt_g5).trans kg50
            replace kg51 := ((bcell b).1 _ _ lt_g5).trans kg51
            replace kg70 := ((bcell b).1 _ _ lt_g7).trans kg70
            replace kg71 := ((bcell b).1 _ _ lt_g7).trans kg71
            replace kg140 := ((bcell b).1 _ _ lt_g14).trans kg140
            replace kg141 := ((bcell b).1 _ _ lt_g14).trans kg141
            replace lt_g4 := Nat.lt_of_lt_of_le lt_g4 b.size
            replace lt_g5 := Nat.lt_of_lt_of_le lt_g5 b.size
            replace lt_g7 := Nat.lt_of_lt_of_le lt_g7 b.size
            replace lt_gL := Nat.lt_of_lt_of_le lt_gL b.size
            replace lt_g14 := Nat.lt_of_lt_of_le lt_g14 b.size
            replace HR := Bx.mk (HR.out.below b)
            replace HY := Bx.mk (HY.out.below b)
            replace HSr := Bx.mk (HSr.out.below b)
            replace HLr := Bx.mk (HLr.out.below b)
            replace HXr := Bx.mk (HXr.out.below b)
            replace HB := Bx.mk (HB.out.below b)
            replace bw := bw.trans (b.mono bw.size)
            clear b
            go_wp2_with fail
            go_ret
            exact ⟨rfl, bw⟩
          · as_aux_lemma =>
            have HSTR : Bx (∀ A c W, IR W A r → Calls Tryz.prog 19 #[.agg #[.int .i64 m, .slice A r.length c], .int .i64 u] W fun e w' => ∃ A2 c2, e = .returned (.tuple #[.agg #[.int .i64 0, .slice A2 0 c2], .bool false]) ∧ Below W.heap.size W w') := ⟨fun A c W h => (stretch_not m A c r m u rfl hub.out hgu W HROK.out h).mono fun e w' h => by
              obtain ⟨A2, c2, e1, _, e3⟩ := h
              exact ⟨A2, c2, e1, e3⟩⟩
            clear hgu
            refine (HSTR.out _ _ _ (by exact HR.out)).mono ?_
            rintro e w56 ⟨A14, c14, rfl, b⟩
            replace kg40 := ((bcell b).1 _ _ lt_g4).trans kg40
            replace kg41 := ((bcell b).1 _ _ lt_g4).trans kg41
            replace kg50 := ((bcell b).1 _ _ lt_g5).trans kg50
            replace kg51 := ((bcell b).1 _ _ lt_g5).trans kg51
            replace kg70 := ((bcell b).1 _ _ lt_g7).trans kg70
            replace kg71 := ((bcell b).1 _ _ lt_g7).trans kg71
            replace lt_g4 := Nat.lt_of_lt_of_le lt_g4 b.size
            replace lt_g5 := Nat.lt_of_lt_of_le lt_g5 b.size
            replace lt_g7 := Nat.lt_of_lt_of_le lt_g7 b.size
            replace lt_gL := Nat.lt_of_lt_of_le lt_gL b.size
            replace HR := Bx.mk (HR.out.below b)
            replace HY := Bx.mk (HY.out.below b)
            replace HSr := Bx.mk (HSr.out.below b)
            replace HLr := Bx.mk (HLr.out.below b)
            replace HB := Bx.mk (HB.out.below b)
            replace bw := bw.trans (b.mono bw.size)
            clear b
            obtain ⟨w57, hW⟩ : ∃ w57, w57 = w56.alloc (.cells #[.int .i64 0, .slice A14 0 c14] 26) := ⟨_, rfl⟩
            obtain ⟨g14, hg⟩ : ∃ g14, g14 = w56.heap.size := ⟨_, rfl⟩
            have b : Below w56.heap.size w56 w57 := by rw [hW]; exact below_alloc _ _
            have kg140 : w57.cell? ⟨g14, 0, none⟩ = some (.int .i64 0) := by rw [hW, hg]; simp [go_sem]
            have kg141 : w57.cell? ⟨g14, 1, none⟩ = some (.slice A14 0 c14) := by rw [hW, hg]; simp [go_sem]
            have lt_g14 : g14 < w57.heap.size := by rw [hW, hg]; simp
            replace kg40 := ((bcell b).1 _ _ lt_g4).trans kg40
            replace kg41 := ((bcell b).1 _ _ lt_g4).trans kg41
            replace kg50 := ((bcell b).1 _ _ lt_g5).trans kg50
            replace kg51 := ((bcell b).1 _ _ lt_g5).trans kg51
            replace kg70 := ((bcell b).1 _ _ lt_g7).trans kg70
            replace kg71 := ((bcell b).1 _ _ lt_g7).trans kg71
            replace lt_g4 := Nat.lt_of_lt_of_le lt_g4 b.size
            replace lt_g5 := Nat.lt_of_lt_of_le lt_g5 b.size
            replace lt_g7 := Nat.lt_of_lt_of_le lt_g7 b.size
            replace lt_gL := Nat.lt_of_lt_of_le lt_gL b.size
            replace HR := Bx.mk (HR.out.below b)
            replace HY := Bx.mk (HY.out.below b)
            replace HSr := Bx.mk (HSr.out.below b)
            replace HLr := Bx.mk (HLr.out.below b)
            replace HB := Bx.mk (HB.out.below b)
            replace bw := bw.trans (b.mono bw.size)
            clear b
            go_upto_region 24 with (fail)
            rw [← hW, ← hg]
            clear hW hg
            go_upto_region 26 with (fail)
            by_cases hm1 : m = 1
            · have hmb : (((m : Nat) : Int) == 1) = true := by rw [beq_iff_eq]; omega
              go_wp2_with fail
              go_ret
              exact ⟨rfl, bw⟩
            have hmb : (((m : Nat) : Int) == 1) = false := by rw [beq_eq_false_iff_ne]; omega
            have hrb : (((r.length : Nat) : Int) == 0) = false := by rw [beq_eq_false_iff_ne]; omega
            go_wp2_with fail
            refine (HTSl.out _ _ _ _ _ (by exact HR.out) (by exact HSr.out)).mono ?_
            rintro e w58 ⟨rfl, b⟩
            replace kg40 := ((bcell b).1 _ _ lt_g4).trans kg40
            replace kg41 := ((bcell b).1 _ _ lt_g4).trans kg41
            replace kg50 := ((bcell b).1 _ _ lt_g5).trans kg50
            replace kg51 := ((bcell b).1 _ _ lt_g5).trans kg51
            replace kg70 := ((bcell b).1 _ _ lt_g7).trans kg70
            replace kg71 := ((bcell b).1 _ _ lt_g7).trans kg71
            replace kg140 := ((bcell b).1 _ _ lt_g14).trans kg140
            replace kg141 := ((bcell b).1 _ _ lt_g14).trans kg141
            replace lt_g4 := Nat.lt_of_lt_of_le lt_g4 b.size
            replace lt_g5 := Nat.lt_of_lt_of_le lt_g5 b.size
            replace lt_g7 := Nat.lt_of_lt_of_le lt_g7 b.size
            replace lt_gL := Nat.lt_of_lt_of_le lt_gL b.size
            replace lt_g14 := Nat.lt_of_lt_of_le lt_g14 b.size
            replace HR := Bx.mk (HR.out.below b)
            replace HY := Bx.mk (HY.out.below b)
            replace HSr := Bx.mk (HSr.out.below b)
            replace HLr := Bx.mk (HLr.out.below b)
            replace HB := Bx.mk (HB.out.below b)
            replace bw := bw.trans (b.mono bw.size)
            clear b
            go_wp2_with fail
            go_ret
            exact ⟨rfl, bw⟩
end Go.Proofs.YtikifkbgmniobaaGreat
