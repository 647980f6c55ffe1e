/- The law FnGenerated, walked. -/
import Derived.Test.YtpejnhcmelkmeaaRegM
import Derived.Test.YtpejnhcmelkmeaaGns
import Derived.Test.YtpejnhcmelkmeaaDrw
import Derived.Test.YtpejnhcmelkmeaaLawH
import Derived.Test.YtpejnhcmelkmeaaDiff
import Derived.Test.YtpejnhcmelkmeaaLawB
import Derived.Test.YtpejnhcmelkmeaaBas
import Derived.Test.YtpejnhcmelkmeaaFinWords
import Derived.Deep.RegionHeld3
import Derived.Deep.DeepCutAuto
import Derived.Deep.RegionWith
namespace Go.Proofs.Ytpejnhcmelkmeaa
open Go.RowKit

set_option linter.unusedSimpArgs false
set_option maxHeartbeats 16000000 in
set_option maxRecDepth 100000 in
theorem walkFnGenerated (w : World) (A0 : Option Addr) (c0 : Nat) (xs0 : List Int) (ha0 : AR .u8 w A0 xs0) (hf0 : ∀ x ∈ xs0, 0 ≤ x ∧ x ≤ 255) :
    Calls Try.prog 3 #[.slice A0 xs0.length c0] w fun e w' => e = .returned (.bool true) ∧ Below w.heap.size w w' := by
  obtain ⟨n0, hn0⟩ : ∃ n0, n0 = xs0.length := ⟨_, rfl⟩
  by_cases hbig : n0 ≤ 1048576
  rotate_left
  · have hgt : (n0 : Int) > 1048576 := by omega
    rw [← hn0]
    clear hn0
    go_enter Try.func3, Try.ntmps3
    go_wp2_with fail
    go_ret
    exact ⟨rfl, Below.refl _ _⟩
  have HB : Bx (BR w A0 n0) := ⟨br_of hn0 hbig ha0 hf0⟩
  have bw : Below w.heap.size w w := Below.refl _ _
  have hgt : ¬ (n0 : Int) > 1048576 := by omega
  rw [← hn0]
  clear hn0 ha0 hf0
  go_enter Try.func3, Try.ntmps3
  go_wp2_with fail
  have BRA : Bx (0 < n0 → ∀ x, A0 = some x → x.block < w.heap.size) := ⟨fun h0 => HB.out.lt h0⟩
  refine (makeNum_any _ _ _ 0 _ (by omega) (by exact HB.out)).mono ?_
  rintro e w1 ⟨q1, hq1, rfl, b⟩
  replace HB := Bx.mk (HB.out.below b)
  replace bw := bw.trans (b.mono bw.size)
  clear b
  obtain ⟨m1, hm⟩ : ∃ m : Nat, m = q1 % 16 := ⟨_, rfl⟩
  have hmb : m1 ≤ 15 := by omega
  have hme : (q1 : Int) % 16 = (m1 : Int) := by rw [hm]; exact (Int.natCast_emod q1 16).symm
  have hmt : (q1 : Int).tmod 16 = (m1 : Int) := by rw [hm]; exact (Int.ofNat_tmod q1 16).symm
  obtain ⟨n, hn⟩ : ∃ n : Nat, n = 2 + m1 := ⟨_, rfl⟩
  have hni : (2 : Int) + (m1 : Int) = (n : Int) := by omega
  have h2 : 2 ≤ n := by omega
  have h17 : n ≤ 17 := by omega
  clear hm hn
  go_wp2_with fail
  refine (makeNum_any _ _ _ 2 _ (by omega) (by exact HB.out)).mono ?_
  rintro e w2 ⟨q2, hq2, rfl, b⟩
  clear hme hmt hni hmb
  replace HB := Bx.mk (HB.out.below b)
  replace bw := bw.trans (b.mono bw.size)
  clear b
  obtain ⟨r2, hr2⟩ : ∃ r2 : Nat, r2 = n + 1 := ⟨_, rfl⟩
  have hri : (n : Int) + 1 = (r2 : Int) := by omega
  have hrz : ¬ (r2 : Int) = 0 := by omega
  obtain ⟨k, hm⟩ : ∃ m : Nat, m = q2 % r2 := ⟨_, rfl⟩
  have hkb : k < r2 := by rw [hm]; exact Nat.mod_lt _ (by omega)
  have hme : (q2 : Int) % (r2 : Int) = (k : Int) := by rw [hm]; exact (Int.natCast_emod q2 r2).symm
  have hmt : (q2 : Int).tmod (r2 : Int) = (k : Int) := by rw [hm]; exact (Int.ofNat_tmod q2 r2).symm
  have hkn : k ≤ n := by omega
  clear hm hr2 hkb
  go_wp2_with fail
  refine (makeNum_any _ _ _ 4 _ (by omega) (by exact HB.out)).mono ?_
  rintro e w3 ⟨q3, hq3, rfl, b⟩
  clear hme hmt hri hrz
  replace HB := Bx.mk (HB.out.below b)
  replace bw := bw.trans (b.mono bw.size)
  clear b
  obtain ⟨r1, hr1⟩ : ∃ r1 : Nat, r1 = n - 1 := ⟨_, rfl⟩
  have hri : (n : Int) - 1 = (r1 : Int) := by omega
  have hrz : ¬ (r1 : Int) = 0 := by omega
  obtain ⟨m2, hm⟩ : ∃ m : Nat, m = q3 % r1 := ⟨_, rfl⟩
  have hmb2 : m2 < r1 := by rw [hm]; exact Nat.mod_lt _ (by omega)
  have hme : (q3 : Int) % (r1 : Int) = (m2 : Int) := by rw [hm]; exact (Int.natCast_emod q3 r1).symm
  have hmt : (q3 : Int).tmod (r1 : Int) = (m2 : Int) := by rw [hm]; exact (Int.ofNat_tmod q3 r1).symm
  obtain ⟨d, hd⟩ : ∃ d : Nat, d = 1 + m2 := ⟨_, rfl⟩
  have hdi : (1 : Int) + (m2 : Int) = (d : Int) := by omega
  have hd1 : 1 ≤ d := by omega
  have hdn : d < n := by omega
  clear hm hd hr1 hmb2
  go_wp2_with fail
  clear hme hmt hri hrz hdi
  obtain ⟨gc, hgc⟩ : ∃ gc : Nat, gc = Nat.gcd d n := ⟨_, rfl⟩
  have hgp : 1 ≤ gc := by rw [hgc]; exact Nat.gcd_pos_of_pos_left _ (by omega)
  have hgn : gc ≤ 17 := by rw [hgc]; exact Nat.le_trans (Nat.gcd_le_left _ (by omega)) (by omega)
  have HGC : Bx (∀ W, Calls Try.prog 6 #[.int .i64 d, .int .i64 n] W fun e w' => e = .returned (.int .i64 (gc : Int)) ∧ W = w') := ⟨fun W => by rw [hgc]; exact gw_gcd d n (by omega) (by omega) W⟩
  obtain ⟨M, hM⟩ : ∃ M : Nat, M = k * gc := ⟨_, rfl⟩
  have hMi : (k : Int) * (gc : Int) = (M : Int) := by rw [hM, Int.natCast_mul]
  have hMb : M ≤ 289 := by rw [hM]; exact Nat.mul_le_mul (show k ≤ 17 by omega) hgn
  have HGE := Bx.mk hgc
  have HME := Bx.mk hM
  clear hgc hM
  by_cases hMn : M ≤ n
  · have hMni : (M : Int) ≤ (n : Int) := by omega
    have HF : Bx (∀ t : Int, GnF n k d (gQ n t d k)) := ⟨fun t => gn_facts h2 h17 hkn hd1 hdn (by rw [← HGE.out, ← HME.out]; exact hMn) t⟩
    obtain ⟨L0, hL0⟩ : ∃ L0, L0 = gQ n 0 d k := ⟨_, rfl⟩
    have HGR : Bx (∀ W, Calls Try.prog 5 #[.int .i64 n, .int .i64 k, .int .i64 d] W (GivesRB W n L0 true)) := ⟨fun W => by rw [hL0]; exact gw_yes h2 h17 hkn hd1 hdn (by rw [← HGE.out, ← HME.out]; exact hMn) W⟩
    have HRO : Bx (∀ A c W (t : Nat), t < n → IR W A L0 → Calls Try.prog 8 #[.agg #[.int .i64 n, .slice A L0.length c], .int .i64 t] W (GivesRB W n (gQ n t d k) true)) := ⟨fun A c W t ht h => by rw [hL0] at h ⊢; exact gw_rot h2 h17 A c t ht W h⟩
    clear hL0
    refine (HGR.out _).mono ?_
    rintro e w4 ⟨AL, cL, rfl, io, b⟩
    replace HB := Bx.mk (HB.out.below b)
    replace bw := bw.trans (b.mono bw.size)
    clear b
    have HL := Bx.mk io.reads
    clear io
    have hwr : w.heap.size ≤ w4.heap.size := bw.size
    obtain ⟨w5, hW⟩ : ∃ w5, w5 = w4.alloc (.cells #[.int .i64 n, .slice AL L0.length cL] 26) := ⟨_, rfl⟩
    obtain ⟨gr, hg⟩ : ∃ gr, gr = w4.heap.size := ⟨_, rfl⟩
    have b : Below w4.heap.size w4 w5 := by rw [hW]; exact below_alloc _ _
    have kgr0 : w5.cell? ⟨gr, 0, none⟩ = some (.int .i64 n) := by rw [hW, hg]; simp [go_sem]
    have kgr1 : w5.cell? ⟨gr, 1, none⟩ = some (.slice AL L0.length cL) := by rw [hW, hg]; simp [go_sem]
    have lt_gr : gr < w5.heap.size := by rw [hW, hg]; simp
    replace HL := Bx.mk (HL.out.below b)
    replace HB := Bx.mk (HB.out.below b)
    replace bw := bw.trans (b.mono bw.size)
    clear b
    go_upto_region 7 with (fail)
    have HG : Bx (Blk w5 gr 26 #[.int .i64 n, .slice AL L0.length cL]) := ⟨by rw [hW, hg]; exact Blk.new _ _ _⟩
    have hgrw : w.heap.size ≤ gr := by omega
    rw [← hW, ← hg]
    clear hW hg
    go_wp2_with fail
    refine (HGC.out _).mono ?_
    rintro e w' ⟨rfl, rfl⟩
    go_wp2_with fail
    have hgr9 := lt_gr
    refine (makeOf_any _ _ _ 10 n _ (by omega) (by omega) (by omega) (by exact HB.out)).mono ?_
    rintro e w6 ⟨x, hxok, Ax, cx, rfl, io, b⟩
    have HXG : Bx (∀ y, Ax = some y → y.block ≠ gr) := ⟨fun y hy => by have := io.ge y hy; omega⟩
    replace HG := Bx.mk (HG.out.below b lt_gr)
    clear hgr9
    replace kgr0 := ((bcell b).1 _ _ lt_gr).trans kgr0
    replace kgr1 := ((bcell b).1 _ _ lt_gr).trans kgr1
    replace lt_gr := Nat.lt_of_lt_of_le lt_gr b.size
    replace HL := Bx.mk (HL.out.below b)
    replace HB := Bx.mk (HB.out.below b)
    replace bw := bw.trans (b.mono bw.size)
    clear b
    have HXOK := Bx.mk hxok
    clear hxok
    have HX := Bx.mk io.reads
    clear io
    have hgr10 := lt_gr
    obtain ⟨w7, hW⟩ : ∃ w7, w7 = w6.alloc (.cells #[.int .i64 n, .slice Ax x.length cx] 26) := ⟨_, rfl⟩
    obtain ⟨gx, hg⟩ : ∃ gx, gx = w6.heap.size := ⟨_, rfl⟩
    have b : Below w6.heap.size w6 w7 := by rw [hW]; exact below_alloc _ _
    have kgx0 : w7.cell? ⟨gx, 0, none⟩ = some (.int .i64 n) := by rw [hW, hg]; simp [go_sem]
    have kgx1 : w7.cell? ⟨gx, 1, none⟩ = some (.slice Ax x.length cx) := by rw [hW, hg]; simp [go_sem]
    have lt_gx : gx < w7.heap.size := by rw [hW, hg]; simp
    replace kgr0 := ((bcell b).1 _ _ lt_gr).trans kgr0
    replace kgr1 := ((bcell b).1 _ _ lt_gr).trans kgr1
    replace lt_gr := Nat.lt_of_lt_of_le lt_gr b.size
    replace HL := Bx.mk (HL.out.below b)
    replace HX := Bx.mk (HX.out.below b)
    replace HB := Bx.mk (HB.out.below b)
    replace bw := bw.trans (b.mono bw.size)
    clear b
    have hgxr : gx ≠ gr := by omega
    clear hgr10
    replace HG : Bx (Blk w7 gr 26 #[.int .i64 n, .slice AL L0.length cL]) := ⟨by rw [hW]; exact HG.out.alloc _⟩
    go_upto_region 10 with (fail)
    rw [← hW, ← hg]
    clear hW hg
    go_upto_region 11 with (fail)
    go_cut [57] from 57 to 65 (fun _ wx => ∃ (t : Nat) (A2 : Option Addr) (c2 : Nat), Bx (wx.cell? ⟨gr, 0, none⟩ = some (.int .i64 n) ∧ wx.cell? ⟨gr, 1, none⟩ = some (.slice A2 (gQ n t d k).length c2) ∧ IR wx A2 (gQ n t d k) ∧ wx.cell? ⟨gx, 0, none⟩ = some (.int .i64 n) ∧ wx.cell? ⟨gx, 1, none⟩ = some (.slice Ax x.length cx) ∧ IR wx Ax x ∧ Below w.heap.size w wx ∧ w7.heap.size ≤ wx.heap.size))
    case first => as_aux_lemma =>
      have HBd := Bx.mk (HB.out.below (Below.refl _ _).drew)
      have hB0 : Bx (Below w7.heap.size w7 w7.drew) := ⟨(Below.refl _ _).drew⟩
      have kd0 : w7.drew.cell? ⟨gr, 0, none⟩ = some (.int .i64 n) := kgr0
      have kd1 : w7.drew.cell? ⟨gr, 1, none⟩ = some (.slice AL L0.length cL) := kgr1
      have hnz : ¬ (n : Int) = 0 := by omega
      go_region_with (first
        | (go_at_call 4; refine (makeNum_any _ _ _ 6 _ (by omega) (by exact HBd.out)).mono ?_; rintro e w9 ⟨q4, hq4, rfl, b9⟩; have hB9 : Bx (Below w7.heap.size w7 w9) := ⟨((Below.refl _ _).drew).trans b9⟩; have t0 := ((bcell hB9.out).1 _ _ lt_gr).trans kgr0; have t1 := ((bcell hB9.out).1 _ _ lt_gr).trans kgr1; obtain ⟨t4, ht4⟩ : ∃ t4 : Nat, t4 = q4 % n := ⟨_, rfl⟩; have ht4b : t4 < n := (by rw [ht4]; exact Nat.mod_lt _ (by omega)); have hme4 : (q4 : Int) % (n : Int) = (t4 : Int) := (by rw [ht4]; exact (Int.natCast_emod q4 n).symm); have hmt4 : (q4 : Int).tmod (n : Int) = (t4 : Int) := (by rw [ht4]; exact (Int.ofNat_tmod q4 n).symm); clear b9 ht4)
        | (go_at_call 8; refine (HRO.out _ _ _ t4 ht4b (by exact HL.out.below hB9.out)).mono ?_; rintro e w10 ⟨A2, c2, rfl, io10, b10⟩; have hB10 : Bx (Below w7.heap.size w7 w10) := ⟨hB9.out.trans (b10.mono hB9.out.size)⟩; have HG10 := HG.out.below hB10.out lt_gr; have y0 := HG10.at_ (i := 0) rfl; have y1 := HG10.at_ (i := 1) rfl; have f0 := HG10.frozen 0; have f1 := HG10.frozen 1; have HG10x := Bx.mk HG10; have HIO10 := Bx.mk (io10.mono hB9.out.size); clear HG10 b10 io10))
      all_goals have HBO : Bx (Only w10 ((w10.setCell ⟨gr, 0, none⟩ (.int .i64 n)).setCell ⟨gr, 1, none⟩ (.slice A2 (gQ n t4 d k).length c2)) (some ⟨gr, 0, none⟩)) := ⟨((Only.refl w10 _).set (i := 0) _).set (i := 1) _⟩
      all_goals have HR7 := Bx.mk ((HG10x.out.set 0 (.int .i64 n)).set 1 (.slice A2 (gQ n t4 d k).length c2))
      all_goals have m0 := HR7.out.at_ (i := 0) rfl
      all_goals have m1 := HR7.out.at_ (i := 1) rfl
      all_goals have HZ : Bx (((w10.setCell ⟨gr, 0, none⟩ (.int .i64 n)).setCell ⟨gr, 1, none⟩ (.slice A2 (gQ n t4 d k).length c2)).cell? ⟨gr, 0, none⟩ = some (.int .i64 n) ∧ ((w10.setCell ⟨gr, 0, none⟩ (.int .i64 n)).setCell ⟨gr, 1, none⟩ (.slice A2 (gQ n t4 d k).length c2)).cell? ⟨gr, 1, none⟩ = some (.slice A2 (gQ n t4 d k).length c2) ∧ IR ((w10.setCell ⟨gr, 0, none⟩ (.int .i64 n)).setCell ⟨gr, 1, none⟩ (.slice A2 (gQ n t4 d k).length c2)) A2 (gQ n t4 d k) ∧ ((w10.setCell ⟨gr, 0, none⟩ (.int .i64 n)).setCell ⟨gr, 1, none⟩ (.slice A2 (gQ n t4 d k).length c2)).cell? ⟨gx, 0, none⟩ = some (.int .i64 n) ∧ ((w10.setCell ⟨gr, 0, none⟩ (.int .i64 n)).setCell ⟨gr, 1, none⟩ (.slice A2 (gQ n t4 d k).length c2)).cell? ⟨gx, 1, none⟩ = some (.slice Ax x.length cx) ∧ IR ((w10.setCell ⟨gr, 0, none⟩ (.int .i64 n)).setCell ⟨gr, 1, none⟩ (.slice A2 (gQ n t4 d k).length c2)) Ax x ∧ Below w.heap.size w ((w10.setCell ⟨gr, 0, none⟩ (.int .i64 n)).setCell ⟨gr, 1, none⟩ (.slice A2 (gQ n t4 d k).length c2)) ∧ w7.heap.size ≤ ((w10.setCell ⟨gr, 0, none⟩ (.int .i64 n)).setCell ⟨gr, 1, none⟩ (.slice A2 (gQ n t4 d k).length c2)).heap.size) := ⟨⟨m0, m1,
          HIO10.out.reads.only HBO.out (fun a e ha he => by injection he with he; subst he; have := HIO10.out.ge a ha; show a.block ≠ gr; omega),
          (World.cell?_of_block (w := w10) (HBO.out.block gx (Nat.lt_of_lt_of_le lt_gx hB10.out.size) (by simp; omega))).trans (((bcell hB10.out).1 _ _ lt_gx).trans kgx0),
          (World.cell?_of_block (w := w10) (HBO.out.block gx (Nat.lt_of_lt_of_le lt_gx hB10.out.size) (by simp; omega))).trans (((bcell hB10.out).1 _ _ lt_gx).trans kgx1),
          (HX.out.below hB10.out).only HBO.out (fun a e ha he => by injection he with he; subst he; have := HXG.out a ha; show a.block ≠ gr; omega),
          (bw.trans (hB10.out.mono bw.size)).trans (HBO.out.below (Nat.le_trans bw.size hB10.out.size) (fun a ha => by injection ha with ha; subst ha; exact hgrw)),
          Nat.le_trans hB10.out.size HBO.out.size⟩⟩
      all_goals clear HBO HR7 m0 m1
      all_goals go_wp2_with fail
      all_goals go_meet
      all_goals exact ⟨t4, A2, c2, HZ⟩
    case rest =>
      obtain ⟨r0, A2, c2, HCT⟩ := hcut
      rename World => wz1
      clear HG HL HB HX bw kgr0 kgr1 kgx0 kgx1 HXG HRO HGR hgxr hgrw
      obtain ⟨kgr0, kgr1, hir, kgx0, kgx1, hxr, bw, hzw⟩ := HCT.out
      have HFR := Bx.mk (HF.out r0)
      obtain ⟨R, hR⟩ : ∃ R, R = gQ n r0 d k := ⟨_, rfl⟩
      rw [← hR] at kgr1 hir HFR
      have HR := Bx.mk hir
      have HX := Bx.mk hxr
      replace lt_gr := Nat.lt_of_lt_of_le lt_gr hzw
      replace lt_gx := Nat.lt_of_lt_of_le lt_gx hzw
      clear HCT hir hxr hzw HF hR
      have HROK := Bx.mk HFR.out.ok
      have hrl := (rhOk_len HROK.out).1
      obtain ⟨GL, hGL⟩ : ∃ GL, GL = gensR n R := ⟨_, rfl⟩
      obtain ⟨C, hC⟩ : ∃ C, C = chainR n R d := ⟨_, rfl⟩
      obtain ⟨O, hO⟩ : ∃ O, O = othL n R := ⟨_, rfl⟩
      obtain ⟨GO, hGO⟩ : ∃ GO, GO = gensR n O := ⟨_, rfl⟩
      obtain ⟨S, hS⟩ : ∃ S, S = sizesR n R := ⟨_, rfl⟩
      obtain ⟨nd, hnd⟩ : ∃ nd : Nat, nd = n - d := ⟨_, rfl⟩
      have hndi : (n : Int) - (d : Int) = (nd : Int) := by omega
      have hCl : C.length = k := by rw [hC]; exact HFR.out.clen
      have hCb : (((C.length : Nat) : Int) != (k : Int)) = false := by rw [bne_eq_false_iff_eq, hCl]
      have hC24 : C.length ≤ 24 := by omega
      have HCin : Bx (∀ p ∈ C, (0 ≤ p ∧ p < n) ∧ hasR n R p = true) := ⟨by rw [hC]; exact HFR.out.cin⟩
      have HCst : Bx (∀ (i : Nat) (p q : Int), C[i]? = some q → C[i + 1]? = some p → (p - q + n) % n = d) := ⟨by rw [hC]; exact HFR.out.cst⟩
      have HS3 : Bx (S.length ≤ 3) := ⟨by rw [hS]; exact HFR.out.s3⟩
      have hS24 : S.length ≤ 24 := by rw [hS]; exact sizesR_len _ _
      have HGN : Bx (∀ A c W, IR W A R → Calls Try.prog 9 #[.agg #[.int .i64 n, .slice A R.length c]] W (GivesInts W GL)) := ⟨fun A c W h => by rw [hGL]; exact implGens_any n A c R W ⟨by omega, by omega⟩ h⟩
      have HCH : Bx (∀ A c W, IR W A R → Calls Try.prog 10 #[.agg #[.int .i64 n, .slice A R.length c], .int .i64 d] W (GivesInts W C)) := ⟨fun A c W h => by rw [hC]; exact implChainI_any n A c R d W ⟨by omega, by omega⟩ h⟩
      have HOT : Bx (∀ A c W, IR W A R → Calls Try.prog 11 #[.agg #[.int .i64 n, .slice A R.length c]] W (GivesRB W n O true)) := ⟨fun A c W h => by rw [hO]; exact other_ok n A c R W HROK.out h⟩
      have HIG : Bx (∀ A c W, IR W A R → Calls Try.prog 13 #[.agg #[.int .i64 n, .slice A R.length c]] W fun e w' => e = .returned (.bool true) ∧ Below W.heap.size W w') := ⟨fun A c W h => by have := implIsGen_any n A c R W ⟨by omega, by omega⟩ h; rw [HFR.out.isg] at this; exact this⟩
      have HCS : Bx (∀ A c W, IR W A R → Calls Try.prog 14 #[.agg #[.int .i64 n, .slice A R.length c]] W fun e w' => e = .returned (.int .i64 (S.length : Int)) ∧ Below W.heap.size W w') := ⟨fun A c W h => by rw [hS]; exact implCountSizes_any n A c R W ⟨by omega, by omega⟩ h⟩
      have HIS : Bx (∀ A c W, IR W A R → Calls Try.prog 15 #[.agg #[.int .i64 n, .slice A R.length c]] W fun e w' => e = .returned (.bool true) ∧ Below W.heap.size W w') := ⟨fun A c W h => by have := implIsSum_any n A c R W ⟨by omega, by omega⟩ h; rw [HFR.out.ssum] at this; exact this⟩
      have HGO : Bx (∀ A c W, IR W A O → Calls Try.prog 9 #[.agg #[.int .i64 n, .slice A O.length c]] W (GivesInts W GO)) := ⟨fun A c W h => by rw [hGO]; exact implGens_any n A c O W ⟨by omega, by omega⟩ h⟩
      have HH1 : Bx (∀ A c W, IR W A GL → Calls Try.prog 12 #[.slice A GL.length c, .int .i64 d] W fun e w' => e = .returned (.bool true) ∧ W = w') := ⟨fun A c W h => by have := lawHas_any A c GL d W h; rw [hGL, HFR.out.has1, ← hGL] at this; exact this⟩
      have HH2 : Bx (∀ A c W, IR W A GL → Calls Try.prog 12 #[.slice A GL.length c, .int .i64 nd] W fun e w' => e = .returned (.bool true) ∧ W = w') := ⟨fun A c W h => by have := lawHas_any A c GL nd W h; rw [hnd, hGL, HFR.out.has2, ← hGL, ← hnd] at this; exact this⟩
      have HH3 : Bx (gc = 1 → ∀ A c W, IR W A GO → Calls Try.prog 12 #[.slice A GO.length c, .int .i64 d] W fun e w' => e = .returned (.bool true) ∧ W = w') := ⟨fun h1 A c W h => by have := lawHas_any A c GO d W h; have e := HFR.out.oth (by rw [← HGE.out]; exact h1); rw [← hO, ← hGO] at e; rw [e] at this; exact this⟩
      have HHB : Bx (∀ A c W p, p ∈ C → IR W A R → Calls Try.prog 16 #[.agg #[.int .i64 n, .slice A R.length c], .int .i64 p] W fun e w' => e = .returned (.bool true) ∧ Below W.heap.size W w') := ⟨fun A c W p hp h => by obtain ⟨hb, hh⟩ := HCin.out p hp; have := hasBeat_ok n A c R p W HROK.out h ⟨by omega, by omega⟩; rw [hh] at this; exact this⟩
      have HSE := Bx.mk hS
      clear hGL hC hO hGO hS hnd
      clear hCl
      go_wp2_with fail
      refine (HGN.out _ _ _ (by exact HR.out)).mono ?_
      rintro e w8 ⟨AG, cG, rfl, io, b⟩
      replace kgr0 := ((bcell b).1 _ _ lt_gr).trans kgr0
      replace kgr1 := ((bcell b).1 _ _ lt_gr).trans kgr1
      replace kgx0 := ((bcell b).1 _ _ lt_gx).trans kgx0
      replace kgx1 := ((bcell b).1 _ _ lt_gx).trans kgx1
      replace lt_gr := Nat.lt_of_lt_of_le lt_gr b.size
      replace lt_gx := Nat.lt_of_lt_of_le lt_gx b.size
      replace HR := Bx.mk (HR.out.below b)
      replace HX := Bx.mk (HX.out.below b)
      replace bw := bw.trans (b.mono bw.size)
      clear b
      have HGl := Bx.mk io.reads
      clear io
      go_wp2_with fail
      refine (HCH.out _ _ _ (by exact HR.out)).mono ?_
      rintro e w9 ⟨AC, cC, rfl, io, b⟩
      replace kgr0 := ((bcell b).1 _ _ lt_gr).trans kgr0
      replace kgr1 := ((bcell b).1 _ _ lt_gr).trans kgr1
      replace kgx0 := ((bcell b).1 _ _ lt_gx).trans kgx0
      replace kgx1 := ((bcell b).1 _ _ lt_gx).trans kgx1
      replace lt_gr := Nat.lt_of_lt_of_le lt_gr b.size
      replace lt_gx := Nat.lt_of_lt_of_le lt_gx b.size
      replace HR := Bx.mk (HR.out.below b)
      replace HX := Bx.mk (HX.out.below b)
      replace HGl := Bx.mk (HGl.out.below b)
      replace bw := bw.trans (b.mono bw.size)
      clear b
      have HC := Bx.mk io.reads
      clear io
      go_wp2_with fail
      refine (HOT.out _ _ _ (by exact HR.out)).mono ?_
      rintro e w10 ⟨AO, cO, rfl, io, b⟩
      replace kgr0 := ((bcell b).1 _ _ lt_gr).trans kgr0
      replace kgr1 := ((bcell b).1 _ _ lt_gr).trans kgr1
      replace kgx0 := ((bcell b).1 _ _ lt_gx).trans kgx0
      replace kgx1 := ((bcell b).1 _ _ lt_gx).trans kgx1
      replace lt_gr := Nat.lt_of_lt_of_le lt_gr b.size
      replace lt_gx := Nat.lt_of_lt_of_le lt_gx b.size
      replace HR := Bx.mk (HR.out.below b)
      replace HX := Bx.mk (HX.out.below b)
      replace HGl := Bx.mk (HGl.out.below b)
      replace HC := Bx.mk (HC.out.below b)
      replace bw := bw.trans (b.mono bw.size)
      clear b
      have HO := Bx.mk io.reads
      clear io
      obtain ⟨w11, hW⟩ : ∃ w11, w11 = w10.alloc (.cells #[.int .i64 n, .slice AO O.length cO] 26) := ⟨_, rfl⟩
      obtain ⟨go, hg⟩ : ∃ go, go = w10.heap.size := ⟨_, rfl⟩
      have b : Below w10.heap.size w10 w11 := by rw [hW]; exact below_alloc _ _
      have kgo0 : w11.cell? ⟨go, 0, none⟩ = some (.int .i64 n) := by rw [hW, hg]; simp [go_sem]
      have kgo1 : w11.cell? ⟨go, 1, none⟩ = some (.slice AO O.length cO) := by rw [hW, hg]; simp [go_sem]
      have lt_go : go < w11.heap.size := by rw [hW, hg]; simp
      replace kgr0 := ((bcell b).1 _ _ lt_gr).trans kgr0
      replace kgr1 := ((bcell b).1 _ _ lt_gr).trans kgr1
      replace kgx0 := ((bcell b).1 _ _ lt_gx).trans kgx0
      replace kgx1 := ((bcell b).1 _ _ lt_gx).trans kgx1
      replace lt_gr := Nat.lt_of_lt_of_le lt_gr b.size
      replace lt_gx := Nat.lt_of_lt_of_le lt_gx b.size
      replace HR := Bx.mk (HR.out.below b)
      replace HX := Bx.mk (HX.out.below b)
      replace HGl := Bx.mk (HGl.out.below b)
      replace HC := Bx.mk (HC.out.below b)
      replace HO := Bx.mk (HO.out.below b)
      replace bw := bw.trans (b.mono bw.size)
      clear b
      go_upto_region 15 with (fail)
      rw [← hW, ← hg]
      clear hW hg
      go_cut [121] from 76 to 121 (fun s wx => s = .bool false ∧ Bx (Below w11.heap.size w11 wx))
      case first =>
        as_aux_lemma =>
        have HZ : Bx (Below w11.heap.size w11 w11) := ⟨Below.refl _ _⟩
        go_wp2_with fail
        refine (HH1.out _ _ _ (by exact HGl.out)).mono ?_
        rintro e w' ⟨rfl, rfl⟩
        go_wp2_with fail
        refine (HH2.out _ _ _ (by exact HGl.out)).mono ?_
        rintro e w' ⟨rfl, rfl⟩
        go_wp2_with fail
        refine (HIG.out _ _ _ (by exact HR.out)).mono ?_
        rintro e w12 ⟨rfl, b⟩
        replace HZ := bx_to HZ b
        replace kgr0 := ((bcell b).1 _ _ lt_gr).trans kgr0
        replace kgr1 := ((bcell b).1 _ _ lt_gr).trans kgr1
        replace kgx0 := ((bcell b).1 _ _ lt_gx).trans kgx0
        replace kgx1 := ((bcell b).1 _ _ lt_gx).trans kgx1
        replace kgo0 := ((bcell b).1 _ _ lt_go).trans kgo0
        replace kgo1 := ((bcell b).1 _ _ lt_go).trans kgo1
        replace lt_gr := Nat.lt_of_lt_of_le lt_gr b.size
        replace lt_gx := Nat.lt_of_lt_of_le lt_gx b.size
        replace lt_go := Nat.lt_of_lt_of_le lt_go b.size
        replace HR := Bx.mk (HR.out.below b)
        replace HX := Bx.mk (HX.out.below b)
        replace HGl := Bx.mk (HGl.out.below b)
        replace HC := Bx.mk (HC.out.below b)
        replace HO := Bx.mk (HO.out.below b)
        replace bw := bw.trans (b.mono bw.size)
        clear b
        go_wp2_with fail
        refine (HCS.out _ _ _ (by exact HR.out)).mono ?_
        rintro e w13 ⟨rfl, b⟩
        replace HZ := bx_to HZ b
        replace kgr0 := ((bcell b).1 _ _ lt_gr).trans kgr0
        replace kgr1 := ((bcell b).1 _ _ lt_gr).trans kgr1
        replace kgx0 := ((bcell b).1 _ _ lt_gx).trans kgx0
        replace kgx1 := ((bcell b).1 _ _ lt_gx).trans kgx1
        replace kgo0 := ((bcell b).1 _ _ lt_go).trans kgo0
        replace kgo1 := ((bcell b).1 _ _ lt_go).trans kgo1
        replace lt_gr := Nat.lt_of_lt_of_le lt_gr b.size
        replace lt_gx := Nat.lt_of_lt_of_le lt_gx b.size
        replace lt_go := Nat.lt_of_lt_of_le lt_go b.size
        replace HR := Bx.mk (HR.out.below b)
        replace HX := Bx.mk (HX.out.below b)
        replace HGl := Bx.mk (HGl.out.below b)
        replace HC := Bx.mk (HC.out.below b)
        replace HO := Bx.mk (HO.out.below b)
        replace bw := bw.trans (b.mono bw.size)
        clear b
        have hS3 : ((3 : Int) < ((S.length : Nat) : Int)) = False := eq_false (by have := HS3.out; omega)
        go_wp2_with fail
        refine (HIS.out _ _ _ (by exact HR.out)).mono ?_
        rintro e w14 ⟨rfl, b⟩
        replace HZ := bx_to HZ b
        replace kgr0 := ((bcell b).1 _ _ lt_gr).trans kgr0
        replace kgr1 := ((bcell b).1 _ _ lt_gr).trans kgr1
        replace kgx0 := ((bcell b).1 _ _ lt_gx).trans kgx0
        replace kgx1 := ((bcell b).1 _ _ lt_gx).trans kgx1
        replace kgo0 := ((bcell b).1 _ _ lt_go).trans kgo0
        replace kgo1 := ((bcell b).1 _ _ lt_go).trans kgo1
        replace lt_gr := Nat.lt_of_lt_of_le lt_gr b.size
        replace lt_gx := Nat.lt_of_lt_of_le lt_gx b.size
        replace lt_go := Nat.lt_of_lt_of_le lt_go b.size
        replace HR := Bx.mk (HR.out.below b)
        replace HX := Bx.mk (HX.out.below b)
        replace HGl := Bx.mk (HGl.out.below b)
        replace HC := Bx.mk (HC.out.below b)
        replace HO := Bx.mk (HO.out.below b)
        replace bw := bw.trans (b.mono bw.size)
        clear b
        go_wp2_with fail
        refine (HGC.out _).mono ?_
        rintro e w' ⟨rfl, rfl⟩
        by_cases hg1 : gc = 1
        · have hgb : ((gc : Int) == 1) = true := by rw [beq_iff_eq]; omega
          have HG1 := Bx.mk hg1
          clear hg1
          go_wp2_with fail
          refine (HGO.out _ _ _ (by exact HO.out)).mono ?_
          rintro e w15 ⟨AQ, cQ, rfl, io, b⟩
          replace HZ := bx_to HZ b
          replace kgr0 := ((bcell b).1 _ _ lt_gr).trans kgr0
          replace kgr1 := ((bcell b).1 _ _ lt_gr).trans kgr1
          replace kgx0 := ((bcell b).1 _ _ lt_gx).trans kgx0
          replace kgx1 := ((bcell b).1 _ _ lt_gx).trans kgx1
          replace kgo0 := ((bcell b).1 _ _ lt_go).trans kgo0
          replace kgo1 := ((bcell b).1 _ _ lt_go).trans kgo1
          replace lt_gr := Nat.lt_of_lt_of_le lt_gr b.size
          replace lt_gx := Nat.lt_of_lt_of_le lt_gx b.size
          replace lt_go := Nat.lt_of_lt_of_le lt_go b.size
          replace HR := Bx.mk (HR.out.below b)
          replace HX := Bx.mk (HX.out.below b)
          replace HGl := Bx.mk (HGl.out.below b)
          replace HC := Bx.mk (HC.out.below b)
          replace HO := Bx.mk (HO.out.below b)
          replace bw := bw.trans (b.mono bw.size)
          clear b
          have HQ := Bx.mk io.reads
          clear io
          go_wp2_with fail
          refine (HH3.out HG1.out _ _ _ (by exact HQ.out)).mono ?_
          rintro e w' ⟨rfl, rfl⟩
          go_wp2_with fail
          go_meet
          exact ⟨rfl, HZ⟩
        · have hgb : ((gc : Int) == 1) = false := by rw [beq_eq_false_iff_ne]; omega
          go_wp2_with fail
          go_meet
          exact ⟨rfl, HZ⟩
      case rest =>
        obtain ⟨rfl, HBW⟩ := hcut
        rename World => wz2
        have b := HBW.out
        clear HBW HH1 HH2 HH3 HGO HOT HCH HGN HIS HIG
        replace kgr0 := ((bcell b).1 _ _ lt_gr).trans kgr0
        replace kgr1 := ((bcell b).1 _ _ lt_gr).trans kgr1
        replace kgx0 := ((bcell b).1 _ _ lt_gx).trans kgx0
        replace kgx1 := ((bcell b).1 _ _ lt_gx).trans kgx1
        replace kgo0 := ((bcell b).1 _ _ lt_go).trans kgo0
        replace kgo1 := ((bcell b).1 _ _ lt_go).trans kgo1
        replace lt_gr := Nat.lt_of_lt_of_le lt_gr b.size
        replace lt_gx := Nat.lt_of_lt_of_le lt_gx b.size
        replace lt_go := Nat.lt_of_lt_of_le lt_go b.size
        replace HR := Bx.mk (HR.out.below b)
        replace HX := Bx.mk (HX.out.below b)
        replace HGl := Bx.mk (HGl.out.below b)
        replace HC := Bx.mk (HC.out.below b)
        replace HO := Bx.mk (HO.out.below b)
        replace bw := bw.trans (b.mono bw.size)
        clear b
        go_wp2_with fail
        clear HGl HO
        go_loopw [124] (fun iv wr => ∃ i : Nat, i ≤ C.length ∧ iv = .int .i64 i ∧ Bx (Below wz2.heap.size wz2 wr)) (fun iv _ => C.length - (intOf iv).toNat)
        case atStart => exact ⟨0, by omega, rfl, ⟨Below.refl _ _⟩⟩
        case round =>
          obtain ⟨i, hi, rfl, HLB⟩ := hrel
          by_cases hlt : i < C.length
          · as_aux_lemma =>
            have hCi : (i : Int) < (C.length : Int) := by omega
            obtain ⟨bC, oC, p, rfl, hbC, cC1, H3⟩ := (HC.out.below HLB.out).one (k := i) hlt
            obtain ⟨hpb, _⟩ := HCin.out p (List.mem_of_getElem? H3.out)
            obtain ⟨hp0, hpn⟩ := hpb
            have HPM := Bx.mk (List.mem_of_getElem? H3.out)
            have kr0 := ((bcell HLB.out).1 _ _ lt_gr).trans kgr0
            have kr1 := ((bcell HLB.out).1 _ _ lt_gr).trans kgr1
            have HRr := Bx.mk (HR.out.below HLB.out)
            by_cases hi0 : 0 < i
            · have hi0i : (0 : Int) < (i : Int) := by omega
              obtain ⟨i1, hi1⟩ : ∃ i1, i1 = i - 1 := ⟨_, rfl⟩
              have hii : (i : Int) - 1 = (i1 : Int) := by omega
              obtain ⟨b2, o2, q, e1, _, cC2, H4⟩ := (HC.out.below HLB.out).one (k := i1) (by omega)
              injection e1 with e1; injection e1 with e1 e2; subst e1 e2
              obtain ⟨hqb, _⟩ := HCin.out q (List.mem_of_getElem? H4.out)
              obtain ⟨hq0, hqn⟩ := hqb
              have hst := HCst.out i1 p q H4.out (by rw [show i1 + 1 = i by omega]; exact H3.out)
              obtain ⟨z, hz⟩ := Int.eq_ofNat_of_zero_le (show 0 ≤ p - q + (n : Int) by omega)
              have hzb : z ≤ 40 := by omega
              rw [hz] at hst
              have hzt : (z : Int).tmod (n : Int) = (d : Int) := by rw [Int.tmod_eq_emod_of_nonneg (by omega)]; exact hst
              have hnz : ¬ (n : Int) = 0 := by omega
              have hdd : (((d : Nat) : Int) != ((d : Nat) : Int)) = false := by simp
              have hi1l : (i1 : Int) < (C.length : Int) := by omega
              clear H3 H4 hi1
              go_wp2_with fail
              refine (HHB.out _ _ _ _ HPM.out (by exact HRr.out)).mono ?_
              rintro e w5 ⟨rfl, b⟩
              have kC2 := ((bcell b).1 _ _ hbC).trans cC2
              have HLB2 := Bx.mk (HLB.out.trans (b.mono HLB.out.size))
              clear b
              go_wp2_with fail
              go_roundw
              case rel => exact ⟨i + 1, by omega, by go_num, HLB2⟩
              case measure => simp [intOf]; omega
            · have hi0i : ¬ (0 : Int) < (i : Int) := by omega
              clear H3
              go_wp2_with fail
              refine (HHB.out _ _ _ _ HPM.out (by exact HRr.out)).mono ?_
              rintro e w5 ⟨rfl, b⟩
              have HLB2 := Bx.mk (HLB.out.trans (b.mono HLB.out.size))
              clear b
              go_wp2_with fail
              go_roundw
              case rel => exact ⟨i + 1, by omega, by go_num, HLB2⟩
              case measure => simp [intOf]; omega
          have hCi : ¬ (i : Int) < (C.length : Int) := by omega
          have b := HLB.out
          clear HLB HC
          replace kgr0 := ((bcell b).1 _ _ lt_gr).trans kgr0
          replace kgr1 := ((bcell b).1 _ _ lt_gr).trans kgr1
          replace kgx0 := ((bcell b).1 _ _ lt_gx).trans kgx0
          replace kgx1 := ((bcell b).1 _ _ lt_gx).trans kgx1
          replace kgo0 := ((bcell b).1 _ _ lt_go).trans kgo0
          replace kgo1 := ((bcell b).1 _ _ lt_go).trans kgo1
          replace lt_gr := Nat.lt_of_lt_of_le lt_gr b.size
          replace lt_gx := Nat.lt_of_lt_of_le lt_gx b.size
          replace lt_go := Nat.lt_of_lt_of_le lt_go b.size
          replace HR := Bx.mk (HR.out.below b)
          replace HX := Bx.mk (HX.out.below b)
          replace bw := bw.trans (b.mono bw.size)
          clear b
          go_wp2_with fail
          obtain ⟨mo, hmo⟩ : ∃ mo, mo = extOk n R d := ⟨_, rfl⟩
          obtain ⟨Es, hEs⟩ : ∃ Es, Es = extS n R d := ⟨_, rfl⟩
          obtain ⟨Y, hY⟩ : ∃ Y, Y = extL n R d := ⟨_, rfl⟩
          obtain ⟨GY, hGY⟩ : ∃ GY, GY = gensR n Y := ⟨_, rfl⟩
          obtain ⟨TS, hTS⟩ : ∃ TS, TS = tscR n d := ⟨_, rfl⟩
          obtain ⟨hb, hhb⟩ : ∃ hb, hb = memB TS k := ⟨_, rfl⟩
          obtain ⟨k2, hk2⟩ : ∃ k2 : Nat, k2 = k + 1 := ⟨_, rfl⟩
          obtain ⟨M2, hM2⟩ : ∃ M2 : Nat, M2 = k2 * gc := ⟨_, rfl⟩
          have hki : (k : Int) + 1 = (k2 : Int) := by omega
          have hk2b : k2 ≤ 18 := by omega
          have hM2i : (k2 : Int) * (gc : Int) = (M2 : Int) := by rw [hM2, Int.natCast_mul]
          have hM2b : M2 ≤ 306 := by rw [hM2]; exact Nat.mul_le_mul hk2b hgn
          have HMO : Bx (mo = decide (0 < k ∧ M2 ≤ n)) := ⟨by rw [hmo, HFR.out.ext, hM2, hk2, HGE.out]⟩
          have HEs : Bx (mo = true → Es = n) := ⟨fun h => by rw [hEs]; unfold extS; rw [if_pos (by rw [← hmo]; exact h)]⟩
          have HYL : Bx (mo = true → Y.length = k2 ∧ rhOk n Y = true ∧ memB GY d = true) := ⟨fun h => by rw [hGY, hY, hk2]; exact HFR.out.exl (by rw [← hmo]; exact h)⟩
          have HHV : Bx (hb = decide (2 ≤ k ∧ k < n ∧ S.length ≤ 2)) := ⟨by rw [hhb, hTS, HFR.out.tsc, HSE.out]⟩
          have HM2k : Bx (M2 ≤ n → k < n) := ⟨fun h => by
            have := Nat.mul_le_mul_left k2 hgp
            omega⟩
          have hEsb : -9223372036854775808 ≤ Es ∧ Es ≤ 9223372036854775807 := by rw [hEs]; unfold extS; split <;> omega
          obtain ⟨hEsb1, hEsb2⟩ := hEsb
          have hkk2 : (((k2 : Nat) : Int) != ((k2 : Nat) : Int)) = false := by simp
          have HEX : Bx (∀ A c W, IR W A R → Calls Try.prog 17 #[.agg #[.int .i64 n, .slice A R.length c], .int .i64 d] W (GivesRB W Es Y mo)) := ⟨fun A c W h => by rw [hEs, hY, hmo]; exact implExt_any n A c R d W ⟨by omega, by omega⟩ h⟩
          have HTS : Bx (∀ W, Calls Try.prog 19 #[.int .i64 n, .int .i64 d] W (GivesInts W TS)) := ⟨fun W => by rw [hTS]; exact implTsc_any n d W⟩
          have HTH : Bx (∀ A c W, IR W A TS → Calls Try.prog 12 #[.slice A TS.length c, .int .i64 k] W fun e w' => e = .returned (.bool hb) ∧ W = w') := ⟨fun A c W h => by rw [hhb]; exact lawHas_any A c TS k W h⟩
          have HCY : Bx (mo = true → ∀ A c W, IR W A Y → Calls Try.prog 18 #[.agg #[.int .i64 n, .slice A Y.length c]] W fun e w' => e = .returned (.int .i64 (k2 : Int)) ∧ Below W.heap.size W w') := ⟨fun hm A c W h => by obtain ⟨e1, e2, _⟩ := HYL.out hm; have := countBeats_ok n A c Y W e2 h; rw [e1] at this ⊢; exact this⟩
          have HGY : Bx (∀ A c W, IR W A Y → Calls Try.prog 9 #[.agg #[.int .i64 n, .slice A Y.length c]] W (GivesInts W GY)) := ⟨fun A c W h => by rw [hGY]; exact implGens_any n A c Y W ⟨by omega, by omega⟩ h⟩
          have HHY : Bx (mo = true → ∀ A c W, IR W A GY → Calls Try.prog 12 #[.slice A GY.length c, .int .i64 d] W fun e w' => e = .returned (.bool true) ∧ W = w') := ⟨fun hm A c W h => by have := lawHas_any A c GY d W h; rw [(HYL.out hm).2.2] at this; exact this⟩
          clear hmo hEs hY hGY hTS hhb hM2 HFR HSE HYL HHB HCst HCin
          have HK2 := Bx.mk hk2
          clear hk2
          refine (HEX.out _ _ _ (by exact HR.out)).mono ?_
          rintro e w16 ⟨AY, cY, rfl, io, b⟩
          replace kgr0 := ((bcell b).1 _ _ lt_gr).trans kgr0
          replace kgr1 := ((bcell b).1 _ _ lt_gr).trans kgr1
          replace kgx0 := ((bcell b).1 _ _ lt_gx).trans kgx0
          replace kgx1 := ((bcell b).1 _ _ lt_gx).trans kgx1
          replace kgo0 := ((bcell b).1 _ _ lt_go).trans kgo0
          replace kgo1 := ((bcell b).1 _ _ lt_go).trans kgo1
          replace lt_gr := Nat.lt_of_lt_of_le lt_gr b.size
          replace lt_gx := Nat.lt_of_lt_of_le lt_gx b.size
          replace lt_go := Nat.lt_of_lt_of_le lt_go b.size
          replace HR := Bx.mk (HR.out.below b)
          replace HX := Bx.mk (HX.out.below b)
          replace bw := bw.trans (b.mono bw.size)
          clear b
          have HY := Bx.mk io.reads
          clear io
          obtain ⟨w17, hW⟩ : ∃ w17, w17 = w16.alloc (.cells #[.int .i64 Es, .slice AY Y.length cY] 26) := ⟨_, rfl⟩
          obtain ⟨gy, hg⟩ : ∃ gy, gy = w16.heap.size := ⟨_, rfl⟩
          have b : Below w16.heap.size w16 w17 := by rw [hW]; exact below_alloc _ _
          have kgy0 : w17.cell? ⟨gy, 0, none⟩ = some (.int .i64 Es) := by rw [hW, hg]; simp [go_sem]
          have kgy1 : w17.cell? ⟨gy, 1, none⟩ = some (.slice AY Y.length cY) := by rw [hW, hg]; simp [go_sem]
          have lt_gy : gy < w17.heap.size := by rw [hW, hg]; simp
          replace kgr0 := ((bcell b).1 _ _ lt_gr).trans kgr0
          replace kgr1 := ((bcell b).1 _ _ lt_gr).trans kgr1
          replace kgx0 := ((bcell b).1 _ _ lt_gx).trans kgx0
          replace kgx1 := ((bcell b).1 _ _ lt_gx).trans kgx1
          replace kgo0 := ((bcell b).1 _ _ lt_go).trans kgo0
          replace kgo1 := ((bcell b).1 _ _ lt_go).trans kgo1
          replace lt_gr := Nat.lt_of_lt_of_le lt_gr b.size
          replace lt_gx := Nat.lt_of_lt_of_le lt_gx b.size
          replace lt_go := Nat.lt_of_lt_of_le lt_go b.size
          replace HR := Bx.mk (HR.out.below b)
          replace HX := Bx.mk (HX.out.below b)
          replace HY := Bx.mk (HY.out.below b)
          replace bw := bw.trans (b.mono bw.size)
          clear b
          go_upto_region 24 with (fail)
          rw [← hW, ← hg]
          clear hW hg
          go_cut [209] from 159 to 209 (fun s wx => s = .bool false ∧ Bx (Below w17.heap.size w17 wx))
          case first =>
            as_aux_lemma =>
            have HZ : Bx (Below w17.heap.size w17 w17) := ⟨Below.refl _ _⟩
            by_cases hk0 : 0 < k
            · have hk0i : (0 : Int) < (k : Int) := by omega
              by_cases hmn : M2 ≤ n
              · have hmni : (M2 : Int) ≤ (n : Int) := by omega
                have hmt : mo = true := by rw [HMO.out]; exact decide_eq_true ⟨hk0, hmn⟩
                have hes := HEs.out hmt
                subst hmt hes
                go_wp2_with fail
                refine (HGC.out _).mono ?_
                rintro e w' ⟨rfl, rfl⟩
                go_wp2_with fail
                refine (HCY.out (by trivial) _ _ _ (by exact HY.out)).mono ?_
                rintro e w18 ⟨rfl, b⟩
                replace HZ := bx_to HZ b
                replace kgr0 := ((bcell b).1 _ _ lt_gr).trans kgr0
                replace kgr1 := ((bcell b).1 _ _ lt_gr).trans kgr1
                replace kgx0 := ((bcell b).1 _ _ lt_gx).trans kgx0
                replace kgx1 := ((bcell b).1 _ _ lt_gx).trans kgx1
                replace kgo0 := ((bcell b).1 _ _ lt_go).trans kgo0
                replace kgo1 := ((bcell b).1 _ _ lt_go).trans kgo1
                replace kgy0 := ((bcell b).1 _ _ lt_gy).trans kgy0
                replace kgy1 := ((bcell b).1 _ _ lt_gy).trans kgy1
                replace lt_gr := Nat.lt_of_lt_of_le lt_gr b.size
                replace lt_gx := Nat.lt_of_lt_of_le lt_gx b.size
                replace lt_go := Nat.lt_of_lt_of_le lt_go b.size
                replace lt_gy := Nat.lt_of_lt_of_le lt_gy b.size
                replace HR := Bx.mk (HR.out.below b)
                replace HX := Bx.mk (HX.out.below b)
                replace HY := Bx.mk (HY.out.below b)
                replace bw := bw.trans (b.mono bw.size)
                clear b
                go_wp2_with fail
                refine (HGY.out _ _ _ (by exact HY.out)).mono ?_
                rintro e w19 ⟨AU, cU, rfl, io, b⟩
                replace HZ := bx_to HZ b
                replace kgr0 := ((bcell b).1 _ _ lt_gr).trans kgr0
                replace kgr1 := ((bcell b).1 _ _ lt_gr).trans kgr1
                replace kgx0 := ((bcell b).1 _ _ lt_gx).trans kgx0
                replace kgx1 := ((bcell b).1 _ _ lt_gx).trans kgx1
                replace kgo0 := ((bcell b).1 _ _ lt_go).trans kgo0
                replace kgo1 := ((bcell b).1 _ _ lt_go).trans kgo1
                replace kgy0 := ((bcell b).1 _ _ lt_gy).trans kgy0
                replace kgy1 := ((bcell b).1 _ _ lt_gy).trans kgy1
                replace lt_gr := Nat.lt_of_lt_of_le lt_gr b.size
                replace lt_gx := Nat.lt_of_lt_of_le lt_gx b.size
                replace lt_go := Nat.lt_of_lt_of_le lt_go b.size
                replace lt_gy := Nat.lt_of_lt_of_le lt_gy b.size
                replace HR := Bx.mk (HR.out.below b)
                replace HX := Bx.mk (HX.out.below b)
                replace HY := Bx.mk (HY.out.below b)
                replace bw := bw.trans (b.mono bw.size)
                clear b
                have HU := Bx.mk io.reads
                clear io
                go_wp2_with fail
                refine (HHY.out (by trivial) _ _ _ (by exact HU.out)).mono ?_
                rintro e w' ⟨rfl, rfl⟩
                go_wp2_with fail
                refine (HTS.out _).mono ?_
                rintro e w20 ⟨AT, cT, rfl, io, b⟩
                replace HZ := bx_to HZ b
                replace kgr0 := ((bcell b).1 _ _ lt_gr).trans kgr0
                replace kgr1 := ((bcell b).1 _ _ lt_gr).trans kgr1
                replace kgx0 := ((bcell b).1 _ _ lt_gx).trans kgx0
                replace kgx1 := ((bcell b).1 _ _ lt_gx).trans kgx1
                replace kgo0 := ((bcell b).1 _ _ lt_go).trans kgo0
                replace kgo1 := ((bcell b).1 _ _ lt_go).trans kgo1
                replace kgy0 := ((bcell b).1 _ _ lt_gy).trans kgy0
                replace kgy1 := ((bcell b).1 _ _ lt_gy).trans kgy1
                replace lt_gr := Nat.lt_of_lt_of_le lt_gr b.size
                replace lt_gx := Nat.lt_of_lt_of_le lt_gx b.size
                replace lt_go := Nat.lt_of_lt_of_le lt_go b.size
                replace lt_gy := Nat.lt_of_lt_of_le lt_gy b.size
                replace HR := Bx.mk (HR.out.below b)
                replace HX := Bx.mk (HX.out.below b)
                replace HY := Bx.mk (HY.out.below b)
                replace HU := Bx.mk (HU.out.below b)
                replace bw := bw.trans (b.mono bw.size)
                clear b
                have HT := Bx.mk io.reads
                clear io
                go_wp2_with fail
                by_cases hkt : 2 ≤ k
                · have hk2i : ((2 : Int) ≤ (k : Int)) = True := eq_true (by omega)
                  by_cases hkl : k < n
                  · have hkli : (k : Int) < (n : Int) := by omega
                    by_cases hsl : S.length ≤ 2
                    · as_aux_lemma =>
                      have hsli : (((S.length : Nat) : Int) ≤ 2) = True := eq_true (by omega)
                      have hbv : hb = true := by rw [HHV.out]; exact decide_eq_true ⟨hkt, hkl, hsl⟩
                      subst hbv
                      refine (HTH.out _ _ _ (by exact HT.out)).mono ?_
                      rintro e w' ⟨rfl, rfl⟩
                      go_wp2_with fail
                      refine (HCS.out _ _ _ (by exact HR.out)).mono ?_
                      rintro e w21 ⟨rfl, b⟩
                      replace HZ := bx_to HZ b
                      replace kgr0 := ((bcell b).1 _ _ lt_gr).trans kgr0
                      replace kgr1 := ((bcell b).1 _ _ lt_gr).trans kgr1
                      replace kgx0 := ((bcell b).1 _ _ lt_gx).trans kgx0
                      replace kgx1 := ((bcell b).1 _ _ lt_gx).trans kgx1
                      replace kgo0 := ((bcell b).1 _ _ lt_go).trans kgo0
                      replace kgo1 := ((bcell b).1 _ _ lt_go).trans kgo1
                      replace kgy0 := ((bcell b).1 _ _ lt_gy).trans kgy0
                      replace kgy1 := ((bcell b).1 _ _ lt_gy).trans kgy1
                      replace lt_gr := Nat.lt_of_lt_of_le lt_gr b.size
                      replace lt_gx := Nat.lt_of_lt_of_le lt_gx b.size
                      replace lt_go := Nat.lt_of_lt_of_le lt_go b.size
                      replace lt_gy := Nat.lt_of_lt_of_le lt_gy b.size
                      replace HR := Bx.mk (HR.out.below b)
                      replace HX := Bx.mk (HX.out.below b)
                      replace HY := Bx.mk (HY.out.below b)
                      replace HU := Bx.mk (HU.out.below b)
                      replace HT := Bx.mk (HT.out.below b)
                      replace bw := bw.trans (b.mono bw.size)
                      clear b
                      go_wp2_with fail
                      go_meet
                      exact ⟨rfl, HZ⟩
                    · as_aux_lemma =>
                      have hsli : (((S.length : Nat) : Int) ≤ 2) = False := eq_false (by omega)
                      have hbv : hb = false := by rw [HHV.out]; exact decide_eq_false (fun h => hsl h.2.2)
                      subst hbv
                      refine (HTH.out _ _ _ (by exact HT.out)).mono ?_
                      rintro e w' ⟨rfl, rfl⟩
                      go_wp2_with fail
                      refine (HCS.out _ _ _ (by exact HR.out)).mono ?_
                      rintro e w22 ⟨rfl, b⟩
                      replace HZ := bx_to HZ b
                      replace kgr0 := ((bcell b).1 _ _ lt_gr).trans kgr0
                      replace kgr1 := ((bcell b).1 _ _ lt_gr).trans kgr1
                      replace kgx0 := ((bcell b).1 _ _ lt_gx).trans kgx0
                      replace kgx1 := ((bcell b).1 _ _ lt_gx).trans kgx1
                      replace kgo0 := ((bcell b).1 _ _ lt_go).trans kgo0
                      replace kgo1 := ((bcell b).1 _ _ lt_go).trans kgo1
                      replace kgy0 := ((bcell b).1 _ _ lt_gy).trans kgy0
                      replace kgy1 := ((bcell b).1 _ _ lt_gy).trans kgy1
                      replace lt_gr := Nat.lt_of_lt_of_le lt_gr b.size
                      replace lt_gx := Nat.lt_of_lt_of_le lt_gx b.size
                      replace lt_go := Nat.lt_of_lt_of_le lt_go b.size
                      replace lt_gy := Nat.lt_of_lt_of_le lt_gy b.size
                      replace HR := Bx.mk (HR.out.below b)
                      replace HX := Bx.mk (HX.out.below b)
                      replace HY := Bx.mk (HY.out.below b)
                      replace HU := Bx.mk (HU.out.below b)
                      replace HT := Bx.mk (HT.out.below b)
                      replace bw := bw.trans (b.mono bw.size)
                      clear b
                      go_wp2_with fail
                      go_meet
                      exact ⟨rfl, HZ⟩
                  · exact absurd (HM2k.out (by omega)) hkl
                · as_aux_lemma =>
                  have hk2i : ((2 : Int) ≤ (k : Int)) = False := eq_false (by omega)
                  have hbv : hb = false := by rw [HHV.out]; exact decide_eq_false (fun h => hkt h.1)
                  subst hbv
                  refine (HTH.out _ _ _ (by exact HT.out)).mono ?_
                  rintro e w' ⟨rfl, rfl⟩
                  go_wp2_with fail
                  go_meet
                  exact ⟨rfl, HZ⟩
              · have hmni : ¬ (M2 : Int) ≤ (n : Int) := by omega
                have hmt : mo = false := by rw [HMO.out]; exact decide_eq_false (fun h => hmn h.2)
                subst hmt
                go_wp2_with fail
                refine (HGC.out _).mono ?_
                rintro e w' ⟨rfl, rfl⟩
                go_wp2_with fail
                refine (HTS.out _).mono ?_
                rintro e w23 ⟨AT, cT, rfl, io, b⟩
                replace HZ := bx_to HZ b
                replace kgr0 := ((bcell b).1 _ _ lt_gr).trans kgr0
                replace kgr1 := ((bcell b).1 _ _ lt_gr).trans kgr1
                replace kgx0 := ((bcell b).1 _ _ lt_gx).trans kgx0
                replace kgx1 := ((bcell b).1 _ _ lt_gx).trans kgx1
                replace kgo0 := ((bcell b).1 _ _ lt_go).trans kgo0
                replace kgo1 := ((bcell b).1 _ _ lt_go).trans kgo1
                replace kgy0 := ((bcell b).1 _ _ lt_gy).trans kgy0
                replace kgy1 := ((bcell b).1 _ _ lt_gy).trans kgy1
                replace lt_gr := Nat.lt_of_lt_of_le lt_gr b.size
                replace lt_gx := Nat.lt_of_lt_of_le lt_gx b.size
                replace lt_go := Nat.lt_of_lt_of_le lt_go b.size
                replace lt_gy := Nat.lt_of_lt_of_le lt_gy b.size
                replace HR := Bx.mk (HR.out.below b)
                replace HX := Bx.mk (HX.out.below b)
                replace HY := Bx.mk (HY.out.below b)
                replace bw := bw.trans (b.mono bw.size)
                clear b
                have HT := Bx.mk io.reads
                clear io
                go_wp2_with fail
                by_cases hkt : 2 ≤ k
                · have hk2i : ((2 : Int) ≤ (k : Int)) = True := eq_true (by omega)
                  by_cases hkl : k < n
                  · have hkli : (k : Int) < (n : Int) := by omega
                    by_cases hsl : S.length ≤ 2
                    · as_aux_lemma =>
                      have hsli : (((S.length : Nat) : Int) ≤ 2) = True := eq_true (by omega)
                      have hbv : hb = true := by rw [HHV.out]; exact decide_eq_true ⟨hkt, hkl, hsl⟩
                      subst hbv
                      refine (HTH.out _ _ _ (by exact HT.out)).mono ?_
                      rintro e w' ⟨rfl, rfl⟩
                      go_wp2_with fail
                      refine (HCS.out _ _ _ (by exact HR.out)).mono ?_
                      rintro e w24 ⟨rfl, b⟩
                      replace HZ := bx_to HZ b
                      replace kgr0 := ((bcell b).1 _ _ lt_gr).trans kgr0
                      replace kgr1 := ((bcell b).1 _ _ lt_gr).trans kgr1
                      replace kgx0 := ((bcell b).1 _ _ lt_gx).trans kgx0
                      replace kgx1 := ((bcell b).1 _ _ lt_gx).trans kgx1
                      replace kgo0 := ((bcell b).1 _ _ lt_go).trans kgo0
                      replace kgo1 := ((bcell b).1 _ _ lt_go).trans kgo1
                      replace kgy0 := ((bcell b).1 _ _ lt_gy).trans kgy0
                      replace kgy1 := ((bcell b).1 _ _ lt_gy).trans kgy1
                      replace lt_gr := Nat.lt_of_lt_of_le lt_gr b.size
                      replace lt_gx := Nat.lt_of_lt_of_le lt_gx b.size
                      replace lt_go := Nat.lt_of_lt_of_le lt_go b.size
                      replace lt_gy := Nat.lt_of_lt_of_le lt_gy b.size
                      replace HR := Bx.mk (HR.out.below b)
                      replace HX := Bx.mk (HX.out.below b)
                      replace HY := Bx.mk (HY.out.below b)
                      replace HT := Bx.mk (HT.out.below b)
                      replace bw := bw.trans (b.mono bw.size)
                      clear b
                      go_wp2_with fail
                      go_meet
                      exact ⟨rfl, HZ⟩
                    · as_aux_lemma =>
                      have hsli : (((S.length : Nat) : Int) ≤ 2) = False := eq_false (by omega)
                      have hbv : hb = false := by rw [HHV.out]; exact decide_eq_false (fun h => hsl h.2.2)
                      subst hbv
                      refine (HTH.out _ _ _ (by exact HT.out)).mono ?_
                      rintro e w' ⟨rfl, rfl⟩
                      go_wp2_with fail
                      refine (HCS.out _ _ _ (by exact HR.out)).mono ?_
                      rintro e w25 ⟨rfl, b⟩
                      replace HZ := bx_to HZ b
                      replace kgr0 := ((bcell b).1 _ _ lt_gr).trans kgr0
                      replace kgr1 := ((bcell b).1 _ _ lt_gr).trans kgr1
                      replace kgx0 := ((bcell b).1 _ _ lt_gx).trans kgx0
                      replace kgx1 := ((bcell b).1 _ _ lt_gx).trans kgx1
                      replace kgo0 := ((bcell b).1 _ _ lt_go).trans kgo0
                      replace kgo1 := ((bcell b).1 _ _ lt_go).trans kgo1
                      replace kgy0 := ((bcell b).1 _ _ lt_gy).trans kgy0
                      replace kgy1 := ((bcell b).1 _ _ lt_gy).trans kgy1
                      replace lt_gr := Nat.lt_of_lt_of_le lt_gr b.size
                      replace lt_gx := Nat.lt_of_lt_of_le lt_gx b.size
                      replace lt_go := Nat.lt_of_lt_of_le lt_go b.size
                      replace lt_gy := Nat.lt_of_lt_of_le lt_gy b.size
                      replace HR := Bx.mk (HR.out.below b)
                      replace HX := Bx.mk (HX.out.below b)
                      replace HY := Bx.mk (HY.out.below b)
                      replace HT := Bx.mk (HT.out.below b)
                      replace bw := bw.trans (b.mono bw.size)
                      clear b
                      go_wp2_with fail
                      go_meet
                      exact ⟨rfl, HZ⟩
                  · as_aux_lemma =>
                    have hkli : ¬ (k : Int) < (n : Int) := by omega
                    have hbv : hb = false := by rw [HHV.out]; exact decide_eq_false (fun h => hkl h.2.1)
                    subst hbv
                    refine (HTH.out _ _ _ (by exact HT.out)).mono ?_
                    rintro e w' ⟨rfl, rfl⟩
                    go_wp2_with fail
                    go_meet
                    exact ⟨rfl, HZ⟩
                · as_aux_lemma =>
                  have hk2i : ((2 : Int) ≤ (k : Int)) = False := eq_false (by omega)
                  have hbv : hb = false := by rw [HHV.out]; exact decide_eq_false (fun h => hkt h.1)
                  subst hbv
                  refine (HTH.out _ _ _ (by exact HT.out)).mono ?_
                  rintro e w' ⟨rfl, rfl⟩
                  go_wp2_with fail
                  go_meet
                  exact ⟨rfl, HZ⟩
            · have hk0i : ¬ (0 : Int) < (k : Int) := by omega
              have hmt : mo = false := by rw [HMO.out]; exact decide_eq_false (fun h => hk0 h.1)
              subst hmt
              go_wp2_with fail
              refine (HTS.out _).mono ?_
              rintro e w26 ⟨AT, cT, rfl, io, b⟩
              replace HZ := bx_to HZ b
              replace kgr0 := ((bcell b).1 _ _ lt_gr).trans kgr0
              replace kgr1 := ((bcell b).1 _ _ lt_gr).trans kgr1
              replace kgx0 := ((bcell b).1 _ _ lt_gx).trans kgx0
              replace kgx1 := ((bcell b).1 _ _ lt_gx).trans kgx1
              replace kgo0 := ((bcell b).1 _ _ lt_go).trans kgo0
              replace kgo1 := ((bcell b).1 _ _ lt_go).trans kgo1
              replace kgy0 := ((bcell b).1 _ _ lt_gy).trans kgy0
              replace kgy1 := ((bcell b).1 _ _ lt_gy).trans kgy1
              replace lt_gr := Nat.lt_of_lt_of_le lt_gr b.size
              replace lt_gx := Nat.lt_of_lt_of_le lt_gx b.size
              replace lt_go := Nat.lt_of_lt_of_le lt_go b.size
              replace lt_gy := Nat.lt_of_lt_of_le lt_gy b.size
              replace HR := Bx.mk (HR.out.below b)
              replace HX := Bx.mk (HX.out.below b)
              replace HY := Bx.mk (HY.out.below b)
              replace bw := bw.trans (b.mono bw.size)
              clear b
              have HT := Bx.mk io.reads
              clear io
              go_wp2_with fail
              have hk2i : ((2 : Int) ≤ (k : Int)) = False := eq_false (by omega)
              have hbv : hb = false := by rw [HHV.out]; exact decide_eq_false (fun h => by omega)
              subst hbv
              refine (HTH.out _ _ _ (by exact HT.out)).mono ?_
              rintro e w' ⟨rfl, rfl⟩
              go_wp2_with fail
              go_meet
              exact ⟨rfl, HZ⟩
          case rest =>
            obtain ⟨rfl, HBW⟩ := hcut
            rename World => wz3
            have b := HBW.out
            clear HBW HEX HTS HTH HCY HGY HHY HCS HMO HEs HHV HM2k HK2 HGC
            replace kgr0 := ((bcell b).1 _ _ lt_gr).trans kgr0
            replace kgr1 := ((bcell b).1 _ _ lt_gr).trans kgr1
            replace kgx0 := ((bcell b).1 _ _ lt_gx).trans kgx0
            replace kgx1 := ((bcell b).1 _ _ lt_gx).trans kgx1
            replace kgo0 := ((bcell b).1 _ _ lt_go).trans kgo0
            replace kgo1 := ((bcell b).1 _ _ lt_go).trans kgo1
            replace kgy0 := ((bcell b).1 _ _ lt_gy).trans kgy0
            replace kgy1 := ((bcell b).1 _ _ lt_gy).trans kgy1
            replace lt_gr := Nat.lt_of_lt_of_le lt_gr b.size
            replace lt_gx := Nat.lt_of_lt_of_le lt_gx b.size
            replace lt_go := Nat.lt_of_lt_of_le lt_go b.size
            replace lt_gy := Nat.lt_of_lt_of_le lt_gy b.size
            replace HR := Bx.mk (HR.out.below b)
            replace HX := Bx.mk (HX.out.below b)
            replace HY := Bx.mk (HY.out.below b)
            replace bw := bw.trans (b.mono bw.size)
            clear b
            clear HR
            clear HY
            clear kgr0 kgr1 kgy0 kgy1 kgo0 kgo1 lt_gr lt_gy lt_go
            go_wp2_with fail
            have hxl := (rhOk_len HXOK.out)
            obtain ⟨hxl1, hxl2⟩ := hxl
            obtain ⟨E, hE⟩ : ∃ E, E = evL n x.length x.length := ⟨_, rfl⟩
            have HEV : Bx (∀ W, Calls Try.prog 20 #[.int .i64 x.length, .int .i64 n] W (GivesRB W n E true)) := ⟨fun W => by rw [hE]; exact gw_even h2 h17 (by omega) W⟩
            obtain ⟨gx2, hgx2⟩ : ∃ gx2 : Nat, gx2 = Nat.gcd x.length n := ⟨_, rfl⟩
            have HEI : Bx (gx2 = 1 → isGen n E = true) := ⟨fun h => by rw [hE]; exact ev_gen h2 h17 (by omega) (by rw [← hgx2]; exact h)⟩
            have HGX : Bx (∀ W, Calls Try.prog 6 #[.int .i64 x.length, .int .i64 n] W fun e w' => e = .returned (.int .i64 (gx2 : Int)) ∧ Below W.heap.size W w') := ⟨fun W => (gw_gcd x.length n (by omega) (by omega) W).mono fun _ _ h => ⟨by rw [hgx2]; exact h.1, by rw [← h.2]; exact Below.refl _ _⟩⟩
            clear hE hgx2
            refine (HEV.out _).mono ?_
            rintro e w27 ⟨AE, cE, rfl, io, b⟩
            replace kgx0 := ((bcell b).1 _ _ lt_gx).trans kgx0
            replace kgx1 := ((bcell b).1 _ _ lt_gx).trans kgx1
            replace lt_gx := Nat.lt_of_lt_of_le lt_gx b.size
            replace HX := Bx.mk (HX.out.below b)
            replace bw := bw.trans (b.mono bw.size)
            clear b
            have HE := Bx.mk io.reads
            clear io
            obtain ⟨w28, hW⟩ : ∃ w28, w28 = w27.alloc (.cells #[.int .i64 n, .slice AE E.length cE] 26) := ⟨_, rfl⟩
            obtain ⟨ge, hg⟩ : ∃ ge, ge = w27.heap.size := ⟨_, rfl⟩
            have b : Below w27.heap.size w27 w28 := by rw [hW]; exact below_alloc _ _
            have kge0 : w28.cell? ⟨ge, 0, none⟩ = some (.int .i64 n) := by rw [hW, hg]; simp [go_sem]
            have kge1 : w28.cell? ⟨ge, 1, none⟩ = some (.slice AE E.length cE) := by rw [hW, hg]; simp [go_sem]
            have lt_ge : ge < w28.heap.size := by rw [hW, hg]; simp
            replace kgx0 := ((bcell b).1 _ _ lt_gx).trans kgx0
            replace kgx1 := ((bcell b).1 _ _ lt_gx).trans kgx1
            replace lt_gx := Nat.lt_of_lt_of_le lt_gx b.size
            replace HX := Bx.mk (HX.out.below b)
            replace HE := Bx.mk (HE.out.below b)
            replace bw := bw.trans (b.mono bw.size)
            clear b
            go_upto_region 27 with (fail)
            rw [← hW, ← hg]
            clear hW hg
            obtain ⟨two, htwo⟩ : ∃ two, two = twoB n x := ⟨_, rfl⟩
            obtain ⟨S2, hS2⟩ : ∃ S2, S2 = sizesR n x := ⟨_, rfl⟩
            have HTI : Bx (two = true → isGen n x = true) := ⟨fun h => two_gen (by omega) h17 (by rw [← htwo]; exact h)⟩
            have hS2l : S2.length ≤ 24 := by rw [hS2]; exact sizesR_len _ _
            have hSS : (((S2.length : Nat) : Int) == ((S2.length : Nat) : Int)) = true := by simp
            have HTX : Bx (∀ A c W, IR W A x → Calls Try.prog 21 #[.agg #[.int .i64 n, .slice A x.length c]] W fun e w' => e = .returned (.bool two) ∧ Below W.heap.size W w') := ⟨fun A c W h => by rw [htwo]; exact implTwo_any n A c x W ⟨by omega, by omega⟩ h⟩
            have HTL : Bx (∀ A c W, IR W A dia → Calls Try.prog 21 #[.agg #[.int .i64 12, .slice A 7 c]] W fun e w' => e = .returned (.bool true) ∧ Below W.heap.size W w') := ⟨fun A c W h => by have := implTwo_any 12 A c dia W ⟨by omega, by omega⟩ h; rw [dia_two] at this; exact this⟩
            have HCX : Bx (∀ A c W, IR W A x → Calls Try.prog 14 #[.agg #[.int .i64 n, .slice A x.length c]] W fun e w' => e = .returned (.int .i64 (S2.length : Int)) ∧ Below W.heap.size W w') := ⟨fun A c W h => by rw [hS2]; exact implCountSizes_any n A c x W ⟨by omega, by omega⟩ h⟩
            have HSX : Bx (∀ A c W, IR W A x → Calls Try.prog 22 #[.agg #[.int .i64 n, .slice A x.length c]] W fun e w' => ∃ B d, e = .returned (.slice B S2.length d) ∧ Below W.heap.size W w') := ⟨fun A c W h => by rw [hS2]; exact (implStepSizes_any n A c x W ⟨by omega, by omega⟩ h).mono fun _ _ ⟨B, d, e1, _, b⟩ => ⟨B, d, e1, b⟩⟩
            clear htwo hS2
            cases two with
            | true =>
              have hix := HTI.out rfl
              have HIX : Bx (∀ A c W, IR W A x → Calls Try.prog 13 #[.agg #[.int .i64 n, .slice A x.length c]] W fun e w' => e = .returned (.bool true) ∧ Below W.heap.size W w') := ⟨fun A c W h => by have := implIsGen_any n A c x W ⟨by omega, by omega⟩ h; rw [hix] at this; exact this⟩
              clear hix
              clear HTI
              by_cases hg1 : gx2 = 1
              · skip
                have hgb : ((gx2 : Int) != 1) = false := by rw [bne_eq_false_iff_eq]; omega
                have hie := HEI.out hg1
                have HIE : Bx (∀ A c W, IR W A E → Calls Try.prog 13 #[.agg #[.int .i64 n, .slice A E.length c]] W fun e w' => e = .returned (.bool true) ∧ Below W.heap.size W w') := ⟨fun A c W h => by have := implIsGen_any n A c E W ⟨by omega, by omega⟩ h; rw [hie] at this; exact this⟩
                clear hie
                clear HEI hg1
                have hB : Bx (Below w28.heap.size w28 w28.drew) := ⟨(Below.refl _ _).drew⟩
                have hB0 : Bx (Below w28.heap.size w28 w28) := ⟨Below.refl _ _⟩
                have kgx0_d : w28.drew.cell? _ = _ := kgx0
                have kgx1_d : w28.drew.cell? _ = _ := kgx1
                have kge0_d : w28.drew.cell? _ = _ := kge0
                have kge1_d : w28.drew.cell? _ = _ := kge1
                refine wp_region_held_drew (S := fun w' => w'.cell? ⟨gx, 0, none⟩ = some (.int .i64 n) ∧ w'.cell? ⟨gx, 1, none⟩ = some (.slice Ax x.length cx) ∧ w'.cell? ⟨ge, 0, none⟩ = some (.int .i64 n) ∧ w'.cell? ⟨ge, 1, none⟩ = some (.slice AE E.length cE) ∧ Bx (Below w28.heap.size w28 w')) (by kernel_rfl) ?hS1000 (fun hHeld => ?rest1000)
                case hS1000 => (try dsimp only); (refine (fun (hK : Bx (Below w28.heap.size w28 _)) => ⟨((bcell hK.out).1 _ _ lt_gx).trans kgx0, ((bcell hK.out).1 _ _ lt_gx).trans kgx1, ((bcell hK.out).1 _ _ lt_ge).trans kge0, ((bcell hK.out).1 _ _ lt_ge).trans kge1, hK⟩) ?_; (first | with_reducible assumption | with_reducible exact bx_alloc (by with_reducible assumption) _ | with_reducible exact bx_drew (by with_reducible assumption) | with_reducible exact bx_drew (bx_alloc (by with_reducible assumption) _)))
                case rest1000 =>
                refine wpAnyH_take (i := 0) (v := ?v1001) (at_list rfl) (by kernel_rfl) (by kernel_rfl) (by kernel_rfl) (fun _ _ _ h => h) (Or.inl ⟨by rfl, ?hy1001⟩) (by assumption) ?rest1001
                case hy1001 => intro w hSw; (try dsimp only at hSw); go_simp; try (with_reducible rfl)
                case rest1001 =>
                try simp only [Act.put, List.setIfInBounds_toArray, List.set_cons_zero, List.set_cons_succ]
                refine wpAnyH_ready (rs := [1]) (by kernel_rfl) (by simp) ?_
                refine AllReadyH.cons (at_list rfl) (fun K hK => ?_) AllReadyH.nil
                go_simp
                go_at_call 21; refine (HTX.out _ _ _ (by exact HX.out.below (Bx.out (by (first | with_reducible assumption | with_reducible exact bx_alloc (by with_reducible assumption) _ | with_reducible exact bx_drew (by with_reducible assumption) | with_reducible exact bx_drew (bx_alloc (by with_reducible assumption) _)))))).mono ?_; rintro e w29 ⟨rfl, bw29⟩; have hBw29 : Bx (Below w28.heap.size w28 w29) := bx_to (by (first | with_reducible assumption | with_reducible exact bx_alloc (by with_reducible assumption) _ | with_reducible exact bx_drew (by with_reducible assumption) | with_reducible exact bx_drew (bx_alloc (by with_reducible assumption) _))) bw29; have hzw29 := bx_size hBw29; have kgx0_w29 := ((bcell hBw29.out).1 _ _ lt_gx).trans kgx0; have kgx1_w29 := ((bcell hBw29.out).1 _ _ lt_gx).trans kgx1; have kge0_w29 := ((bcell hBw29.out).1 _ _ lt_ge).trans kge0; have kge1_w29 := ((bcell hBw29.out).1 _ _ lt_ge).trans kge1
                refine hK.out _ _ ?hS1002 (fun hHeld => ?rest1002)
                case hS1002 => (try dsimp only); (refine (fun (hK : Bx (Below w28.heap.size w28 _)) => ⟨((bcell hK.out).1 _ _ lt_gx).trans kgx0, ((bcell hK.out).1 _ _ lt_gx).trans kgx1, ((bcell hK.out).1 _ _ lt_ge).trans kge0, ((bcell hK.out).1 _ _ lt_ge).trans kge1, hK⟩) ?_; (first | with_reducible assumption | with_reducible exact bx_alloc (by with_reducible assumption) _ | with_reducible exact bx_drew (by with_reducible assumption) | with_reducible exact bx_drew (bx_alloc (by with_reducible assumption) _)))
                case rest1002 =>
                clear hK K
                try simp only [Act.put, List.setIfInBounds_toArray, List.set_cons_zero, List.set_cons_succ]
                refine wpAnyH_take (i := 2) (v := ?v1003) (at_list rfl) (by kernel_rfl) (by kernel_rfl) (by kernel_rfl) (fun _ _ _ h => h) (Or.inl ⟨by rfl, ?hy1003⟩) (by assumption) ?rest1003
                case hy1003 => intro w hSw; (try dsimp only at hSw); go_simp; try (with_reducible rfl)
                case rest1003 =>
                try simp only [Act.put, List.setIfInBounds_toArray, List.set_cons_zero, List.set_cons_succ]
                refine wpAnyH_take (i := 3) (v := ?v1004) (at_list rfl) (by kernel_rfl) (by kernel_rfl) (by kernel_rfl) (fun _ _ _ h => h) (Or.inl ⟨by rfl, ?hy1004⟩) (by assumption) ?rest1004
                case hy1004 => intro w hSw; (try dsimp only at hSw); go_simp; try (with_reducible rfl)
                case rest1004 =>
                try simp only [Act.put, List.setIfInBounds_toArray, List.set_cons_zero, List.set_cons_succ]
                refine wpAnyH_take (i := 4) (v := ?v1005) (at_list rfl) (by kernel_rfl) (by kernel_rfl) (by kernel_rfl) (fun _ _ _ h => h) (Or.inl ⟨by rfl, ?hy1005⟩) (by assumption) ?rest1005
                case hy1005 => intro w hSw; (try dsimp only at hSw); go_simp; try (with_reducible rfl)
                case rest1005 =>
                try simp only [Act.put, List.setIfInBounds_toArray, List.set_cons_zero, List.set_cons_succ]
                refine wpAnyH_ready (rs := [5]) (by kernel_rfl) (by simp) ?_
                refine AllReadyH.cons (at_list rfl) (fun K hK => ?_) AllReadyH.nil
                go_simp
                go_at_call 13; refine (HIX.out _ _ _ (by exact HX.out.below (Bx.out (by (first | with_reducible assumption | with_reducible exact bx_alloc (by with_reducible assumption) _ | with_reducible exact bx_drew (by with_reducible assumption) | with_reducible exact bx_drew (bx_alloc (by with_reducible assumption) _)))))).mono ?_; rintro e w30 ⟨rfl, bw30⟩; have hBw30 : Bx (Below w28.heap.size w28 w30) := bx_to (by (first | with_reducible assumption | with_reducible exact bx_alloc (by with_reducible assumption) _ | with_reducible exact bx_drew (by with_reducible assumption) | with_reducible exact bx_drew (bx_alloc (by with_reducible assumption) _))) bw30; have hzw30 := bx_size hBw30; have kgx0_w30 := ((bcell hBw30.out).1 _ _ lt_gx).trans kgx0; have kgx1_w30 := ((bcell hBw30.out).1 _ _ lt_gx).trans kgx1; have kge0_w30 := ((bcell hBw30.out).1 _ _ lt_ge).trans kge0; have kge1_w30 := ((bcell hBw30.out).1 _ _ lt_ge).trans kge1
                refine hK.out _ _ ?hS1006 (fun hHeld => ?rest1006)
                case hS1006 => (try dsimp only); (refine (fun (hK : Bx (Below w28.heap.size w28 _)) => ⟨((bcell hK.out).1 _ _ lt_gx).trans kgx0, ((bcell hK.out).1 _ _ lt_gx).trans kgx1, ((bcell hK.out).1 _ _ lt_ge).trans kge0, ((bcell hK.out).1 _ _ lt_ge).trans kge1, hK⟩) ?_; (first | with_reducible assumption | with_reducible exact bx_alloc (by with_reducible assumption) _ | with_reducible exact bx_drew (by with_reducible assumption) | with_reducible exact bx_drew (bx_alloc (by with_reducible assumption) _)))
                case rest1006 =>
                clear hK K
                try simp only [Act.put, List.setIfInBounds_toArray, List.set_cons_zero, List.set_cons_succ]
                refine wpAnyH_take (i := 6) (v := ?v1007) (at_list rfl) (by kernel_rfl) (by kernel_rfl) (by kernel_rfl) (fun _ _ _ h => h) (Or.inl ⟨by rfl, ?hy1007⟩) (by assumption) ?rest1007
                case hy1007 => intro w hSw; (try dsimp only at hSw); go_simp; try (with_reducible rfl)
                case rest1007 =>
                try simp only [Act.put, List.setIfInBounds_toArray, List.set_cons_zero, List.set_cons_succ]
                refine wpAnyH_take (i := 7) (v := ?v1008) (at_list rfl) (by kernel_rfl) (by kernel_rfl) (by kernel_rfl) (fun _ _ _ h => h) (Or.inl ⟨by rfl, ?hy1008⟩) (by assumption) ?rest1008
                case hy1008 => intro w hSw; (try dsimp only at hSw); go_simp; try (with_reducible rfl)
                case rest1008 =>
                try simp only [Act.put, List.setIfInBounds_toArray, List.set_cons_zero, List.set_cons_succ]
                refine wpAnyH_take (i := 8) (v := ?v1009) (at_list rfl) (by kernel_rfl) (by kernel_rfl) (by kernel_rfl) (fun _ _ _ h => h) (Or.inl ⟨by rfl, ?hy1009⟩) (by assumption) ?rest1009
                case hy1009 => intro w hSw; (try dsimp only at hSw); go_simp; try (with_reducible rfl)
                case rest1009 =>
                try simp only [Act.put, List.setIfInBounds_toArray, List.set_cons_zero, List.set_cons_succ]
                refine wpAnyH_take (i := 9) (v := ?v1010) (at_list rfl) (by kernel_rfl) (by kernel_rfl) (by kernel_rfl) (fun _ _ _ h => h) (Or.inl ⟨by rfl, ?hy1010⟩) (by assumption) ?rest1010
                case hy1010 => intro w hSw; (try dsimp only at hSw); go_simp; try (with_reducible rfl)
                case rest1010 =>
                try simp only [Act.put, List.setIfInBounds_toArray, List.set_cons_zero, List.set_cons_succ]
                refine wpAnyH_take (i := 10) (v := ?v1011) (at_list rfl) (by kernel_rfl) (by kernel_rfl) (by kernel_rfl) (fun _ _ _ h => h) (Or.inl ⟨by rfl, ?hy1011⟩) (by assumption) ?rest1011
                case hy1011 => intro w hSw; (try dsimp only at hSw); go_simp; try (with_reducible rfl)
                case rest1011 =>
                try simp only [Act.put, List.setIfInBounds_toArray, List.set_cons_zero, List.set_cons_succ]
                refine wpAnyH_take (i := 11) (v := ?v1012) (at_list rfl) (by kernel_rfl) (by kernel_rfl) (by kernel_rfl) (fun _ _ _ h => h) (Or.inl ⟨by rfl, ?hy1012⟩) (by assumption) ?rest1012
                case hy1012 => intro w hSw; (try dsimp only at hSw); go_simp; try (with_reducible rfl)
                case rest1012 =>
                try simp only [Act.put, List.setIfInBounds_toArray, List.set_cons_zero, List.set_cons_succ]
                refine wpAnyH_ready (rs := [12]) (by kernel_rfl) (by simp) ?_
                refine AllReadyH.cons (at_list rfl) (fun K hK => ?_) AllReadyH.nil
                go_simp
                go_at_call 6; refine (HGX.out _).mono ?_; rintro e w31 ⟨rfl, bw31⟩; have hBw31 : Bx (Below w28.heap.size w28 w31) := bx_to (by (first | with_reducible assumption | with_reducible exact bx_alloc (by with_reducible assumption) _ | with_reducible exact bx_drew (by with_reducible assumption) | with_reducible exact bx_drew (bx_alloc (by with_reducible assumption) _))) bw31; have hzw31 := bx_size hBw31; have kgx0_w31 := ((bcell hBw31.out).1 _ _ lt_gx).trans kgx0; have kgx1_w31 := ((bcell hBw31.out).1 _ _ lt_gx).trans kgx1; have kge0_w31 := ((bcell hBw31.out).1 _ _ lt_ge).trans kge0; have kge1_w31 := ((bcell hBw31.out).1 _ _ lt_ge).trans kge1
                refine hK.out _ _ ?hS1013 (fun hHeld => ?rest1013)
                case hS1013 => (try dsimp only); (refine (fun (hK : Bx (Below w28.heap.size w28 _)) => ⟨((bcell hK.out).1 _ _ lt_gx).trans kgx0, ((bcell hK.out).1 _ _ lt_gx).trans kgx1, ((bcell hK.out).1 _ _ lt_ge).trans kge0, ((bcell hK.out).1 _ _ lt_ge).trans kge1, hK⟩) ?_; (first | with_reducible assumption | with_reducible exact bx_alloc (by with_reducible assumption) _ | with_reducible exact bx_drew (by with_reducible assumption) | with_reducible exact bx_drew (bx_alloc (by with_reducible assumption) _)))
                case rest1013 =>
                clear hK K
                try simp only [Act.put, List.setIfInBounds_toArray, List.set_cons_zero, List.set_cons_succ]
                refine wpAnyH_take (i := 13) (v := ?v1014) (at_list rfl) (by kernel_rfl) (by kernel_rfl) (by kernel_rfl) (fun _ _ _ h => h) (Or.inl ⟨by rfl, ?hy1014⟩) (by assumption) ?rest1014
                case hy1014 => intro w hSw; (try dsimp only at hSw); go_simp; try (with_reducible rfl)
                case rest1014 =>
                try simp only [Act.put, List.setIfInBounds_toArray, List.set_cons_zero, List.set_cons_succ]
                refine wpAnyH_take (i := 14) (v := ?v1015) (at_list rfl) (by kernel_rfl) (by kernel_rfl) (by kernel_rfl) (fun _ _ _ h => h) (Or.inl ⟨by rfl, ?hy1015⟩) (by assumption) ?rest1015
                case hy1015 => intro w hSw; (try dsimp only at hSw); go_simp; try (with_reducible rfl)
                case rest1015 =>
                try simp only [Act.put, List.setIfInBounds_toArray, List.set_cons_zero, List.set_cons_succ]
                refine wpAnyH_take (i := 15) (v := ?v1016) (at_list rfl) (by kernel_rfl) (by kernel_rfl) (by kernel_rfl) (fun _ _ _ h => h) (Or.inl ⟨by rfl, ?hy1016⟩) (by assumption) ?rest1016
                case hy1016 => intro w hSw; (try dsimp only at hSw); go_simp; try (with_reducible rfl)
                case rest1016 =>
                try simp only [Act.put, List.setIfInBounds_toArray, List.set_cons_zero, List.set_cons_succ]
                refine wpAnyH_ready (rs := [16]) (by kernel_rfl) (by simp) ?_
                refine AllReadyH.cons (at_list rfl) (fun K hK => ?_) AllReadyH.nil
                go_simp
                go_at_call 13; refine (HIE.out _ _ _ (by exact HE.out.below (Bx.out (by (first | with_reducible assumption | with_reducible exact bx_alloc (by with_reducible assumption) _ | with_reducible exact bx_drew (by with_reducible assumption) | with_reducible exact bx_drew (bx_alloc (by with_reducible assumption) _)))))).mono ?_; rintro e w32 ⟨rfl, bw32⟩; have hBw32 : Bx (Below w28.heap.size w28 w32) := bx_to (by (first | with_reducible assumption | with_reducible exact bx_alloc (by with_reducible assumption) _ | with_reducible exact bx_drew (by with_reducible assumption) | with_reducible exact bx_drew (bx_alloc (by with_reducible assumption) _))) bw32; have hzw32 := bx_size hBw32; have kgx0_w32 := ((bcell hBw32.out).1 _ _ lt_gx).trans kgx0; have kgx1_w32 := ((bcell hBw32.out).1 _ _ lt_gx).trans kgx1; have kge0_w32 := ((bcell hBw32.out).1 _ _ lt_ge).trans kge0; have kge1_w32 := ((bcell hBw32.out).1 _ _ lt_ge).trans kge1
                refine hK.out _ _ ?hS1017 (fun hHeld => ?rest1017)
                case hS1017 => (try dsimp only); (refine (fun (hK : Bx (Below w28.heap.size w28 _)) => ⟨((bcell hK.out).1 _ _ lt_gx).trans kgx0, ((bcell hK.out).1 _ _ lt_gx).trans kgx1, ((bcell hK.out).1 _ _ lt_ge).trans kge0, ((bcell hK.out).1 _ _ lt_ge).trans kge1, hK⟩) ?_; (first | with_reducible assumption | with_reducible exact bx_alloc (by with_reducible assumption) _ | with_reducible exact bx_drew (by with_reducible assumption) | with_reducible exact bx_drew (bx_alloc (by with_reducible assumption) _)))
                case rest1017 =>
                clear hK K
                try simp only [Act.put, List.setIfInBounds_toArray, List.set_cons_zero, List.set_cons_succ]
                refine wpAnyH_take (i := 17) (v := ?v1018) (at_list rfl) (by kernel_rfl) (by kernel_rfl) (by kernel_rfl) (fun _ _ _ h => h) (Or.inl ⟨by rfl, ?hy1018⟩) (by assumption) ?rest1018
                case hy1018 => intro w hSw; (try dsimp only at hSw); go_simp; try (with_reducible rfl)
                case rest1018 =>
                try simp only [Act.put, List.setIfInBounds_toArray, List.set_cons_zero, List.set_cons_succ]
                refine wpAnyH_take (i := 18) (v := ?v1019) (at_list rfl) (by kernel_rfl) (by kernel_rfl) (by kernel_rfl) (fun _ _ _ h => h) (Or.inl ⟨by rfl, ?hy1019⟩) (by assumption) ?rest1019
                case hy1019 => intro w hSw; (try dsimp only at hSw); go_simp; try (with_reducible rfl)
                case rest1019 =>
                try simp only [Act.put, List.setIfInBounds_toArray, List.set_cons_zero, List.set_cons_succ]
                refine wpAnyH_take (i := 19) (v := ?v1020) (at_list rfl) (by kernel_rfl) (by kernel_rfl) (by kernel_rfl) (fun _ _ _ h => h) (Or.inl ⟨by rfl, ?hy1020⟩) (by assumption) ?rest1020
                case hy1020 => intro w hSw; (try dsimp only at hSw); go_simp; try (with_reducible rfl)
                case rest1020 =>
                try simp only [Act.put, List.setIfInBounds_toArray, List.set_cons_zero, List.set_cons_succ]
                refine wpAnyH_ready (rs := [20]) (by kernel_rfl) (by simp) ?_
                refine AllReadyH.cons (at_list rfl) (fun K hK => ?_) AllReadyH.nil
                go_simp
                refine hK.out _ _ ?hS1021 (fun hHeld => ?rest1021)
                case hS1021 => (try dsimp only); (refine (fun (hK : Bx (Below w28.heap.size w28 _)) => ⟨((bcell hK.out).1 _ _ lt_gx).trans kgx0, ((bcell hK.out).1 _ _ lt_gx).trans kgx1, ((bcell hK.out).1 _ _ lt_ge).trans kge0, ((bcell hK.out).1 _ _ lt_ge).trans kge1, hK⟩) ?_; (first | with_reducible assumption | with_reducible exact bx_alloc (by with_reducible assumption) _ | with_reducible exact bx_drew (by with_reducible assumption) | with_reducible exact bx_drew (bx_alloc (by with_reducible assumption) _)))
                case rest1021 =>
                clear hK K
                try simp only [Act.put, List.setIfInBounds_toArray, List.set_cons_zero, List.set_cons_succ]
                refine wpAnyH_take (i := 21) (v := ?v1022) (at_list rfl) (by kernel_rfl) (by kernel_rfl) (by kernel_rfl) (fun _ _ _ h => h) (Or.inl ⟨by rfl, ?hy1022⟩) (by assumption) ?rest1022
                case hy1022 => intro w hSw; (try dsimp only at hSw); go_simp; try (with_reducible rfl)
                case rest1022 =>
                try simp only [Act.put, List.setIfInBounds_toArray, List.set_cons_zero, List.set_cons_succ]
                refine wpAnyH_ready (rs := [22]) (by kernel_rfl) (by simp) ?_
                refine AllReadyH.cons (at_list rfl) (fun K hK => ?_) AllReadyH.nil
                go_simp
                go_at_call 21; refine (HTL.out _ _ _ (by exact gw_lit _)).mono ?_; rintro e w33 ⟨rfl, bw33⟩; have hBw33 : Bx (Below w28.heap.size w28 w33) := bx_to (by (first | with_reducible assumption | with_reducible exact bx_alloc (by with_reducible assumption) _ | with_reducible exact bx_drew (by with_reducible assumption) | with_reducible exact bx_drew (bx_alloc (by with_reducible assumption) _))) bw33; have hzw33 := bx_size hBw33; have kgx0_w33 := ((bcell hBw33.out).1 _ _ lt_gx).trans kgx0; have kgx1_w33 := ((bcell hBw33.out).1 _ _ lt_gx).trans kgx1; have kge0_w33 := ((bcell hBw33.out).1 _ _ lt_ge).trans kge0; have kge1_w33 := ((bcell hBw33.out).1 _ _ lt_ge).trans kge1
                refine hK.out _ _ ?hS1023 (fun hHeld => ?rest1023)
                case hS1023 => (try dsimp only); (refine (fun (hK : Bx (Below w28.heap.size w28 _)) => ⟨((bcell hK.out).1 _ _ lt_gx).trans kgx0, ((bcell hK.out).1 _ _ lt_gx).trans kgx1, ((bcell hK.out).1 _ _ lt_ge).trans kge0, ((bcell hK.out).1 _ _ lt_ge).trans kge1, hK⟩) ?_; (first | with_reducible assumption | with_reducible exact bx_alloc (by with_reducible assumption) _ | with_reducible exact bx_drew (by with_reducible assumption) | with_reducible exact bx_drew (bx_alloc (by with_reducible assumption) _)))
                case rest1023 =>
                clear hK K
                try simp only [Act.put, List.setIfInBounds_toArray, List.set_cons_zero, List.set_cons_succ]
                refine wpAnyH_take (i := 23) (v := ?v1024) (at_list rfl) (by kernel_rfl) (by kernel_rfl) (by kernel_rfl) (fun _ _ _ h => h) (Or.inl ⟨by rfl, ?hy1024⟩) (by assumption) ?rest1024
                case hy1024 => intro w hSw; (try dsimp only at hSw); go_simp; try (with_reducible rfl)
                case rest1024 =>
                try simp only [Act.put, List.setIfInBounds_toArray, List.set_cons_zero, List.set_cons_succ]
                refine wpAnyH_take (i := 24) (v := ?v1025) (at_list rfl) (by kernel_rfl) (by kernel_rfl) (by kernel_rfl) (fun _ _ _ h => h) (Or.inl ⟨by rfl, ?hy1025⟩) (by assumption) ?rest1025
                case hy1025 => intro w hSw; (try dsimp only at hSw); go_simp; try (with_reducible rfl)
                case rest1025 =>
                try simp only [Act.put, List.setIfInBounds_toArray, List.set_cons_zero, List.set_cons_succ]
                refine wpAnyH_take (i := 25) (v := ?v1026) (at_list rfl) (by kernel_rfl) (by kernel_rfl) (by kernel_rfl) (fun _ _ _ h => h) (Or.inl ⟨by rfl, ?hy1026⟩) (by assumption) ?rest1026
                case hy1026 => intro w hSw; (try dsimp only at hSw); go_simp; try (with_reducible rfl)
                case rest1026 =>
                try simp only [Act.put, List.setIfInBounds_toArray, List.set_cons_zero, List.set_cons_succ]
                refine wpAnyH_take (i := 27) (v := ?v1027) (at_list rfl) (by kernel_rfl) (by kernel_rfl) (by kernel_rfl) (fun _ _ _ h => h) (Or.inl ⟨by rfl, ?hy1027⟩) (by assumption) ?rest1027
                case hy1027 => intro w hSw; (try dsimp only at hSw); go_simp; try (with_reducible rfl)
                case rest1027 =>
                try simp only [Act.put, List.setIfInBounds_toArray, List.set_cons_zero, List.set_cons_succ]
                refine wpAnyH_ready (rs := [26]) (by kernel_rfl) (by simp) ?_
                refine AllReadyH.cons (at_list rfl) (fun K hK => ?_) AllReadyH.nil
                go_simp
                go_at_call 14; refine (HCX.out _ _ _ (by exact HX.out.below (Bx.out (by (first | with_reducible assumption | with_reducible exact bx_alloc (by with_reducible assumption) _ | with_reducible exact bx_drew (by with_reducible assumption) | with_reducible exact bx_drew (bx_alloc (by with_reducible assumption) _)))))).mono ?_; rintro e w34 ⟨rfl, bw34⟩; have hBw34 : Bx (Below w28.heap.size w28 w34) := bx_to (by (first | with_reducible assumption | with_reducible exact bx_alloc (by with_reducible assumption) _ | with_reducible exact bx_drew (by with_reducible assumption) | with_reducible exact bx_drew (bx_alloc (by with_reducible assumption) _))) bw34; have hzw34 := bx_size hBw34; have kgx0_w34 := ((bcell hBw34.out).1 _ _ lt_gx).trans kgx0; have kgx1_w34 := ((bcell hBw34.out).1 _ _ lt_gx).trans kgx1; have kge0_w34 := ((bcell hBw34.out).1 _ _ lt_ge).trans kge0; have kge1_w34 := ((bcell hBw34.out).1 _ _ lt_ge).trans kge1
                refine hK.out _ _ ?hS1028 (fun hHeld => ?rest1028)
                case hS1028 => (try dsimp only); (refine (fun (hK : Bx (Below w28.heap.size w28 _)) => ⟨((bcell hK.out).1 _ _ lt_gx).trans kgx0, ((bcell hK.out).1 _ _ lt_gx).trans kgx1, ((bcell hK.out).1 _ _ lt_ge).trans kge0, ((bcell hK.out).1 _ _ lt_ge).trans kge1, hK⟩) ?_; (first | with_reducible assumption | with_reducible exact bx_alloc (by with_reducible assumption) _ | with_reducible exact bx_drew (by with_reducible assumption) | with_reducible exact bx_drew (bx_alloc (by with_reducible assumption) _)))
                case rest1028 =>
                clear hK K
                try simp only [Act.put, List.setIfInBounds_toArray, List.set_cons_zero, List.set_cons_succ]
                refine wpAnyH_ready (rs := [28]) (by kernel_rfl) (by simp) ?_
                refine AllReadyH.cons (at_list rfl) (fun K hK => ?_) AllReadyH.nil
                go_simp
                go_at_call 22; refine (HSX.out _ _ _ (by exact HX.out.below (Bx.out (by (first | with_reducible assumption | with_reducible exact bx_alloc (by with_reducible assumption) _ | with_reducible exact bx_drew (by with_reducible assumption) | with_reducible exact bx_drew (bx_alloc (by with_reducible assumption) _)))))).mono ?_; rintro e w35 ⟨Bw35, dw35, rfl, bw35⟩; have hBw35 : Bx (Below w28.heap.size w28 w35) := bx_to (by (first | with_reducible assumption | with_reducible exact bx_alloc (by with_reducible assumption) _ | with_reducible exact bx_drew (by with_reducible assumption) | with_reducible exact bx_drew (bx_alloc (by with_reducible assumption) _))) bw35; have hzw35 := bx_size hBw35; have kgx0_w35 := ((bcell hBw35.out).1 _ _ lt_gx).trans kgx0; have kgx1_w35 := ((bcell hBw35.out).1 _ _ lt_gx).trans kgx1; have kge0_w35 := ((bcell hBw35.out).1 _ _ lt_ge).trans kge0; have kge1_w35 := ((bcell hBw35.out).1 _ _ lt_ge).trans kge1
                refine hK.out _ _ ?hS1029 (fun hHeld => ?rest1029)
                case hS1029 => (try dsimp only); (refine (fun (hK : Bx (Below w28.heap.size w28 _)) => ⟨((bcell hK.out).1 _ _ lt_gx).trans kgx0, ((bcell hK.out).1 _ _ lt_gx).trans kgx1, ((bcell hK.out).1 _ _ lt_ge).trans kge0, ((bcell hK.out).1 _ _ lt_ge).trans kge1, hK⟩) ?_; (first | with_reducible assumption | with_reducible exact bx_alloc (by with_reducible assumption) _ | with_reducible exact bx_drew (by with_reducible assumption) | with_reducible exact bx_drew (bx_alloc (by with_reducible assumption) _)))
                case rest1029 =>
                clear hK K
                try simp only [Act.put, List.setIfInBounds_toArray, List.set_cons_zero, List.set_cons_succ]
                refine wpAnyH_take (i := 29) (v := ?v1030) (at_list rfl) (by kernel_rfl) (by kernel_rfl) (by kernel_rfl) (fun _ _ _ h => h) (Or.inl ⟨by rfl, ?hy1030⟩) (by assumption) ?rest1030
                case hy1030 => intro w hSw; (try dsimp only at hSw); go_simp; try (with_reducible rfl)
                case rest1030 =>
                try simp only [Act.put, List.setIfInBounds_toArray, List.set_cons_zero, List.set_cons_succ]
                refine wpAnyH_take (i := 30) (v := ?v1031) (at_list rfl) (by kernel_rfl) (by kernel_rfl) (by kernel_rfl) (fun _ _ _ h => h) (Or.inl ⟨by rfl, ?hy1031⟩) (by assumption) ?rest1031
                case hy1031 => intro w hSw; (try dsimp only at hSw); go_simp; try (with_reducible rfl)
                case rest1031 =>
                try simp only [Act.put, List.setIfInBounds_toArray, List.set_cons_zero, List.set_cons_succ]
                refine wpAnyH_take (i := 31) (v := ?v1032) (at_list rfl) (by kernel_rfl) (by kernel_rfl) (by kernel_rfl) (fun _ _ _ h => h) (Or.inl ⟨by rfl, ?hy1032⟩) (by assumption) ?rest1032
                case hy1032 => intro w hSw; (try dsimp only at hSw); go_simp; try (with_reducible rfl)
                case rest1032 =>
                try simp only [Act.put, List.setIfInBounds_toArray, List.set_cons_zero, List.set_cons_succ]
                refine wpAnyH_ready (rs := [32]) (by kernel_rfl) (by simp) ?_
                refine AllReadyH.cons (at_list rfl) (fun K hK => ?_) AllReadyH.nil
                go_simp
                refine hK.out _ _ ?hS1033 (fun hHeld => ?rest1033)
                case hS1033 => (try dsimp only); (refine (fun (hK : Bx (Below w28.heap.size w28 _)) => ⟨((bcell hK.out).1 _ _ lt_gx).trans kgx0, ((bcell hK.out).1 _ _ lt_gx).trans kgx1, ((bcell hK.out).1 _ _ lt_ge).trans kge0, ((bcell hK.out).1 _ _ lt_ge).trans kge1, hK⟩) ?_; (first | with_reducible assumption | with_reducible exact bx_alloc (by with_reducible assumption) _ | with_reducible exact bx_drew (by with_reducible assumption) | with_reducible exact bx_drew (bx_alloc (by with_reducible assumption) _)))
                case rest1033 =>
                clear hK K
                try simp only [Act.put, List.setIfInBounds_toArray, List.set_cons_zero, List.set_cons_succ]
                refine wpAnyH_done (by kernel_rfl) ?_ _
                have b := hBw35.out
                replace kgx0 := ((bcell b).1 _ _ lt_gx).trans kgx0
                replace kgx1 := ((bcell b).1 _ _ lt_gx).trans kgx1
                replace kge0 := ((bcell b).1 _ _ lt_ge).trans kge0
                replace kge1 := ((bcell b).1 _ _ lt_ge).trans kge1
                replace lt_gx := Nat.lt_of_lt_of_le lt_gx b.size
                replace lt_ge := Nat.lt_of_lt_of_le lt_ge b.size
                replace HX := Bx.mk (HX.out.below b)
                replace HE := Bx.mk (HE.out.below b)
                replace bw := bw.trans (b.mono bw.size)
                clear b
                go_wp2_with fail
                go_ret
                exact ⟨rfl, bw⟩
              · skip
                have hgb : ((gx2 : Int) != 1) = true := by rw [bne_iff_ne]; omega
                clear HEI hg1
                have hB : Bx (Below w28.heap.size w28 w28.drew) := ⟨(Below.refl _ _).drew⟩
                have hB0 : Bx (Below w28.heap.size w28 w28) := ⟨Below.refl _ _⟩
                have kgx0_d : w28.drew.cell? _ = _ := kgx0
                have kgx1_d : w28.drew.cell? _ = _ := kgx1
                have kge0_d : w28.drew.cell? _ = _ := kge0
                have kge1_d : w28.drew.cell? _ = _ := kge1
                refine wp_region_held_drew (S := fun w' => w'.cell? ⟨gx, 0, none⟩ = some (.int .i64 n) ∧ w'.cell? ⟨gx, 1, none⟩ = some (.slice Ax x.length cx) ∧ w'.cell? ⟨ge, 0, none⟩ = some (.int .i64 n) ∧ w'.cell? ⟨ge, 1, none⟩ = some (.slice AE E.length cE) ∧ Bx (Below w28.heap.size w28 w')) (by kernel_rfl) ?hS2000 (fun hHeld => ?rest2000)
                case hS2000 => (try dsimp only); (refine (fun (hK : Bx (Below w28.heap.size w28 _)) => ⟨((bcell hK.out).1 _ _ lt_gx).trans kgx0, ((bcell hK.out).1 _ _ lt_gx).trans kgx1, ((bcell hK.out).1 _ _ lt_ge).trans kge0, ((bcell hK.out).1 _ _ lt_ge).trans kge1, hK⟩) ?_; (first | with_reducible assumption | with_reducible exact bx_alloc (by with_reducible assumption) _ | with_reducible exact bx_drew (by with_reducible assumption) | with_reducible exact bx_drew (bx_alloc (by with_reducible assumption) _)))
                case rest2000 =>
                refine wpAnyH_take (i := 0) (v := ?v2001) (at_list rfl) (by kernel_rfl) (by kernel_rfl) (by kernel_rfl) (fun _ _ _ h => h) (Or.inl ⟨by rfl, ?hy2001⟩) (by assumption) ?rest2001
                case hy2001 => intro w hSw; (try dsimp only at hSw); go_simp; try (with_reducible rfl)
                case rest2001 =>
                try simp only [Act.put, List.setIfInBounds_toArray, List.set_cons_zero, List.set_cons_succ]
                refine wpAnyH_ready (rs := [1]) (by kernel_rfl) (by simp) ?_
                refine AllReadyH.cons (at_list rfl) (fun K hK => ?_) AllReadyH.nil
                go_simp
                go_at_call 21; refine (HTX.out _ _ _ (by exact HX.out.below (Bx.out (by (first | with_reducible assumption | with_reducible exact bx_alloc (by with_reducible assumption) _ | with_reducible exact bx_drew (by with_reducible assumption) | with_reducible exact bx_drew (bx_alloc (by with_reducible assumption) _)))))).mono ?_; rintro e w36 ⟨rfl, bw36⟩; have hBw36 : Bx (Below w28.heap.size w28 w36) := bx_to (by (first | with_reducible assumption | with_reducible exact bx_alloc (by with_reducible assumption) _ | with_reducible exact bx_drew (by with_reducible assumption) | with_reducible exact bx_drew (bx_alloc (by with_reducible assumption) _))) bw36; have hzw36 := bx_size hBw36; have kgx0_w36 := ((bcell hBw36.out).1 _ _ lt_gx).trans kgx0; have kgx1_w36 := ((bcell hBw36.out).1 _ _ lt_gx).trans kgx1; have kge0_w36 := ((bcell hBw36.out).1 _ _ lt_ge).trans kge0; have kge1_w36 := ((bcell hBw36.out).1 _ _ lt_ge).trans kge1
                refine hK.out _ _ ?hS2002 (fun hHeld => ?rest2002)
                case hS2002 => (try dsimp only); (refine (fun (hK : Bx (Below w28.heap.size w28 _)) => ⟨((bcell hK.out).1 _ _ lt_gx).trans kgx0, ((bcell hK.out).1 _ _ lt_gx).trans kgx1, ((bcell hK.out).1 _ _ lt_ge).trans kge0, ((bcell hK.out).1 _ _ lt_ge).trans kge1, hK⟩) ?_; (first | with_reducible assumption | with_reducible exact bx_alloc (by with_reducible assumption) _ | with_reducible exact bx_drew (by with_reducible assumption) | with_reducible exact bx_drew (bx_alloc (by with_reducible assumption) _)))
                case rest2002 =>
                clear hK K
                try simp only [Act.put, List.setIfInBounds_toArray, List.set_cons_zero, List.set_cons_succ]
                refine wpAnyH_take (i := 2) (v := ?v2003) (at_list rfl) (by kernel_rfl) (by kernel_rfl) (by kernel_rfl) (fun _ _ _ h => h) (Or.inl ⟨by rfl, ?hy2003⟩) (by assumption) ?rest2003
                case hy2003 => intro w hSw; (try dsimp only at hSw); go_simp; try (with_reducible rfl)
                case rest2003 =>
                try simp only [Act.put, List.setIfInBounds_toArray, List.set_cons_zero, List.set_cons_succ]
                refine wpAnyH_take (i := 3) (v := ?v2004) (at_list rfl) (by kernel_rfl) (by kernel_rfl) (by kernel_rfl) (fun _ _ _ h => h) (Or.inl ⟨by rfl, ?hy2004⟩) (by assumption) ?rest2004
                case hy2004 => intro w hSw; (try dsimp only at hSw); go_simp; try (with_reducible rfl)
                case rest2004 =>
                try simp only [Act.put, List.setIfInBounds_toArray, List.set_cons_zero, List.set_cons_succ]
                refine wpAnyH_take (i := 4) (v := ?v2005) (at_list rfl) (by kernel_rfl) (by kernel_rfl) (by kernel_rfl) (fun _ _ _ h => h) (Or.inl ⟨by rfl, ?hy2005⟩) (by assumption) ?rest2005
                case hy2005 => intro w hSw; (try dsimp only at hSw); go_simp; try (with_reducible rfl)
                case rest2005 =>
                try simp only [Act.put, List.setIfInBounds_toArray, List.set_cons_zero, List.set_cons_succ]
                refine wpAnyH_ready (rs := [5]) (by kernel_rfl) (by simp) ?_
                refine AllReadyH.cons (at_list rfl) (fun K hK => ?_) AllReadyH.nil
                go_simp
                go_at_call 13; refine (HIX.out _ _ _ (by exact HX.out.below (Bx.out (by (first | with_reducible assumption | with_reducible exact bx_alloc (by with_reducible assumption) _ | with_reducible exact bx_drew (by with_reducible assumption) | with_reducible exact bx_drew (bx_alloc (by with_reducible assumption) _)))))).mono ?_; rintro e w37 ⟨rfl, bw37⟩; have hBw37 : Bx (Below w28.heap.size w28 w37) := bx_to (by (first | with_reducible assumption | with_reducible exact bx_alloc (by with_reducible assumption) _ | with_reducible exact bx_drew (by with_reducible assumption) | with_reducible exact bx_drew (bx_alloc (by with_reducible assumption) _))) bw37; have hzw37 := bx_size hBw37; have kgx0_w37 := ((bcell hBw37.out).1 _ _ lt_gx).trans kgx0; have kgx1_w37 := ((bcell hBw37.out).1 _ _ lt_gx).trans kgx1; have kge0_w37 := ((bcell hBw37.out).1 _ _ lt_ge).trans kge0; have kge1_w37 := ((bcell hBw37.out).1 _ _ lt_ge).trans kge1
                refine hK.out _ _ ?hS2006 (fun hHeld => ?rest2006)
                case hS2006 => (try dsimp only); (refine (fun (hK : Bx (Below w28.heap.size w28 _)) => ⟨((bcell hK.out).1 _ _ lt_gx).trans kgx0, ((bcell hK.out).1 _ _ lt_gx).trans kgx1, ((bcell hK.out).1 _ _ lt_ge).trans kge0, ((bcell hK.out).1 _ _ lt_ge).trans kge1, hK⟩) ?_; (first | with_reducible assumption | with_reducible exact bx_alloc (by with_reducible assumption) _ | with_reducible exact bx_drew (by with_reducible assumption) | with_reducible exact bx_drew (bx_alloc (by with_reducible assumption) _)))
                case rest2006 =>
                clear hK K
                try simp only [Act.put, List.setIfInBounds_toArray, List.set_cons_zero, List.set_cons_succ]
                refine wpAnyH_take (i := 6) (v := ?v2007) (at_list rfl) (by kernel_rfl) (by kernel_rfl) (by kernel_rfl) (fun _ _ _ h => h) (Or.inl ⟨by rfl, ?hy2007⟩) (by assumption) ?rest2007
                case hy2007 => intro w hSw; (try dsimp only at hSw); go_simp; try (with_reducible rfl)
                case rest2007 =>
                try simp only [Act.put, List.setIfInBounds_toArray, List.set_cons_zero, List.set_cons_succ]
                refine wpAnyH_take (i := 7) (v := ?v2008) (at_list rfl) (by kernel_rfl) (by kernel_rfl) (by kernel_rfl) (fun _ _ _ h => h) (Or.inl ⟨by rfl, ?hy2008⟩) (by assumption) ?rest2008
                case hy2008 => intro w hSw; (try dsimp only at hSw); go_simp; try (with_reducible rfl)
                case rest2008 =>
                try simp only [Act.put, List.setIfInBounds_toArray, List.set_cons_zero, List.set_cons_succ]
                refine wpAnyH_take (i := 8) (v := ?v2009) (at_list rfl) (by kernel_rfl) (by kernel_rfl) (by kernel_rfl) (fun _ _ _ h => h) (Or.inl ⟨by rfl, ?hy2009⟩) (by assumption) ?rest2009
                case hy2009 => intro w hSw; (try dsimp only at hSw); go_simp; try (with_reducible rfl)
                case rest2009 =>
                try simp only [Act.put, List.setIfInBounds_toArray, List.set_cons_zero, List.set_cons_succ]
                refine wpAnyH_take (i := 9) (v := ?v2010) (at_list rfl) (by kernel_rfl) (by kernel_rfl) (by kernel_rfl) (fun _ _ _ h => h) (Or.inl ⟨by rfl, ?hy2010⟩) (by assumption) ?rest2010
                case hy2010 => intro w hSw; (try dsimp only at hSw); go_simp; try (with_reducible rfl)
                case rest2010 =>
                try simp only [Act.put, List.setIfInBounds_toArray, List.set_cons_zero, List.set_cons_succ]
                refine wpAnyH_take (i := 10) (v := ?v2011) (at_list rfl) (by kernel_rfl) (by kernel_rfl) (by kernel_rfl) (fun _ _ _ h => h) (Or.inl ⟨by rfl, ?hy2011⟩) (by assumption) ?rest2011
                case hy2011 => intro w hSw; (try dsimp only at hSw); go_simp; try (with_reducible rfl)
                case rest2011 =>
                try simp only [Act.put, List.setIfInBounds_toArray, List.set_cons_zero, List.set_cons_succ]
                refine wpAnyH_take (i := 11) (v := ?v2012) (at_list rfl) (by kernel_rfl) (by kernel_rfl) (by kernel_rfl) (fun _ _ _ h => h) (Or.inl ⟨by rfl, ?hy2012⟩) (by assumption) ?rest2012
                case hy2012 => intro w hSw; (try dsimp only at hSw); go_simp; try (with_reducible rfl)
                case rest2012 =>
                try simp only [Act.put, List.setIfInBounds_toArray, List.set_cons_zero, List.set_cons_succ]
                refine wpAnyH_ready (rs := [12]) (by kernel_rfl) (by simp) ?_
                refine AllReadyH.cons (at_list rfl) (fun K hK => ?_) AllReadyH.nil
                go_simp
                go_at_call 6; refine (HGX.out _).mono ?_; rintro e w38 ⟨rfl, bw38⟩; have hBw38 : Bx (Below w28.heap.size w28 w38) := bx_to (by (first | with_reducible assumption | with_reducible exact bx_alloc (by with_reducible assumption) _ | with_reducible exact bx_drew (by with_reducible assumption) | with_reducible exact bx_drew (bx_alloc (by with_reducible assumption) _))) bw38; have hzw38 := bx_size hBw38; have kgx0_w38 := ((bcell hBw38.out).1 _ _ lt_gx).trans kgx0; have kgx1_w38 := ((bcell hBw38.out).1 _ _ lt_gx).trans kgx1; have kge0_w38 := ((bcell hBw38.out).1 _ _ lt_ge).trans kge0; have kge1_w38 := ((bcell hBw38.out).1 _ _ lt_ge).trans kge1
                refine hK.out _ _ ?hS2013 (fun hHeld => ?rest2013)
                case hS2013 => (try dsimp only); (refine (fun (hK : Bx (Below w28.heap.size w28 _)) => ⟨((bcell hK.out).1 _ _ lt_gx).trans kgx0, ((bcell hK.out).1 _ _ lt_gx).trans kgx1, ((bcell hK.out).1 _ _ lt_ge).trans kge0, ((bcell hK.out).1 _ _ lt_ge).trans kge1, hK⟩) ?_; (first | with_reducible assumption | with_reducible exact bx_alloc (by with_reducible assumption) _ | with_reducible exact bx_drew (by with_reducible assumption) | with_reducible exact bx_drew (bx_alloc (by with_reducible assumption) _)))
                case rest2013 =>
                clear hK K
                try simp only [Act.put, List.setIfInBounds_toArray, List.set_cons_zero, List.set_cons_succ]
                refine wpAnyH_take (i := 13) (v := ?v2014) (at_list rfl) (by kernel_rfl) (by kernel_rfl) (by kernel_rfl) (fun _ _ _ h => h) (Or.inl ⟨by rfl, ?hy2014⟩) (by assumption) ?rest2014
                case hy2014 => intro w hSw; (try dsimp only at hSw); go_simp; try (with_reducible rfl)
                case rest2014 =>
                try simp only [Act.put, List.setIfInBounds_toArray, List.set_cons_zero, List.set_cons_succ]
                refine wpAnyH_take (i := 14) (v := ?v2015) (at_list rfl) (by kernel_rfl) (by kernel_rfl) (by kernel_rfl) (fun _ _ _ h => h) (Or.inl ⟨by rfl, ?hy2015⟩) (by assumption) ?rest2015
                case hy2015 => intro w hSw; (try dsimp only at hSw); go_simp; try (with_reducible rfl)
                case rest2015 =>
                try simp only [Act.put, List.setIfInBounds_toArray, List.set_cons_zero, List.set_cons_succ]
                refine wpAnyH_take (i := 15) (v := undef) (at_list rfl) (by kernel_rfl) (by kernel_rfl) (by kernel_rfl) (fun _ _ _ h => h) (Or.inr ⟨by rfl, rfl⟩) (by assumption) ?rest2016
                case rest2016 =>
                try simp only [Act.put, List.setIfInBounds_toArray, List.set_cons_zero, List.set_cons_succ]
                refine wpAnyH_take (i := 16) (v := undef) (at_list rfl) (by kernel_rfl) (by kernel_rfl) (by kernel_rfl) (fun _ _ _ h => h) (Or.inr ⟨by rfl, rfl⟩) (by assumption) ?rest2017
                case rest2017 =>
                try simp only [Act.put, List.setIfInBounds_toArray, List.set_cons_zero, List.set_cons_succ]
                refine wpAnyH_take (i := 17) (v := ?v2018) (at_list rfl) (by kernel_rfl) (by kernel_rfl) (by kernel_rfl) (fun _ _ _ h => h) (Or.inl ⟨by rfl, ?hy2018⟩) (by assumption) ?rest2018
                case hy2018 => intro w hSw; (try dsimp only at hSw); go_simp; try (with_reducible rfl)
                case rest2018 =>
                try simp only [Act.put, List.setIfInBounds_toArray, List.set_cons_zero, List.set_cons_succ]
                refine wpAnyH_take (i := 18) (v := ?v2019) (at_list rfl) (by kernel_rfl) (by kernel_rfl) (by kernel_rfl) (fun _ _ _ h => h) (Or.inl ⟨by rfl, ?hy2019⟩) (by assumption) ?rest2019
                case hy2019 => intro w hSw; (try dsimp only at hSw); go_simp; try (with_reducible rfl)
                case rest2019 =>
                try simp only [Act.put, List.setIfInBounds_toArray, List.set_cons_zero, List.set_cons_succ]
                refine wpAnyH_take (i := 19) (v := ?v2020) (at_list rfl) (by kernel_rfl) (by kernel_rfl) (by kernel_rfl) (fun _ _ _ h => h) (Or.inl ⟨by rfl, ?hy2020⟩) (by assumption) ?rest2020
                case hy2020 => intro w hSw; (try dsimp only at hSw); go_simp; try (with_reducible rfl)
                case rest2020 =>
                try simp only [Act.put, List.setIfInBounds_toArray, List.set_cons_zero, List.set_cons_succ]
                refine wpAnyH_ready (rs := [20]) (by kernel_rfl) (by simp) ?_
                refine AllReadyH.cons (at_list rfl) (fun K hK => ?_) AllReadyH.nil
                go_simp
                refine hK.out _ _ ?hS2021 (fun hHeld => ?rest2021)
                case hS2021 => (try dsimp only); (refine (fun (hK : Bx (Below w28.heap.size w28 _)) => ⟨((bcell hK.out).1 _ _ lt_gx).trans kgx0, ((bcell hK.out).1 _ _ lt_gx).trans kgx1, ((bcell hK.out).1 _ _ lt_ge).trans kge0, ((bcell hK.out).1 _ _ lt_ge).trans kge1, hK⟩) ?_; (first | with_reducible assumption | with_reducible exact bx_alloc (by with_reducible assumption) _ | with_reducible exact bx_drew (by with_reducible assumption) | with_reducible exact bx_drew (bx_alloc (by with_reducible assumption) _)))
                case rest2021 =>
                clear hK K
                try simp only [Act.put, List.setIfInBounds_toArray, List.set_cons_zero, List.set_cons_succ]
                refine wpAnyH_take (i := 21) (v := ?v2022) (at_list rfl) (by kernel_rfl) (by kernel_rfl) (by kernel_rfl) (fun _ _ _ h => h) (Or.inl ⟨by rfl, ?hy2022⟩) (by assumption) ?rest2022
                case hy2022 => intro w hSw; (try dsimp only at hSw); go_simp; try (with_reducible rfl)
                case rest2022 =>
                try simp only [Act.put, List.setIfInBounds_toArray, List.set_cons_zero, List.set_cons_succ]
                refine wpAnyH_ready (rs := [22]) (by kernel_rfl) (by simp) ?_
                refine AllReadyH.cons (at_list rfl) (fun K hK => ?_) AllReadyH.nil
                go_simp
                go_at_call 21; refine (HTL.out _ _ _ (by exact gw_lit _)).mono ?_; rintro e w39 ⟨rfl, bw39⟩; have hBw39 : Bx (Below w28.heap.size w28 w39) := bx_to (by (first | with_reducible assumption | with_reducible exact bx_alloc (by with_reducible assumption) _ | with_reducible exact bx_drew (by with_reducible assumption) | with_reducible exact bx_drew (bx_alloc (by with_reducible assumption) _))) bw39; have hzw39 := bx_size hBw39; have kgx0_w39 := ((bcell hBw39.out).1 _ _ lt_gx).trans kgx0; have kgx1_w39 := ((bcell hBw39.out).1 _ _ lt_gx).trans kgx1; have kge0_w39 := ((bcell hBw39.out).1 _ _ lt_ge).trans kge0; have kge1_w39 := ((bcell hBw39.out).1 _ _ lt_ge).trans kge1
                refine hK.out _ _ ?hS2023 (fun hHeld => ?rest2023)
                case hS2023 => (try dsimp only); (refine (fun (hK : Bx (Below w28.heap.size w28 _)) => ⟨((bcell hK.out).1 _ _ lt_gx).trans kgx0, ((bcell hK.out).1 _ _ lt_gx).trans kgx1, ((bcell hK.out).1 _ _ lt_ge).trans kge0, ((bcell hK.out).1 _ _ lt_ge).trans kge1, hK⟩) ?_; (first | with_reducible assumption | with_reducible exact bx_alloc (by with_reducible assumption) _ | with_reducible exact bx_drew (by with_reducible assumption) | with_reducible exact bx_drew (bx_alloc (by with_reducible assumption) _)))
                case rest2023 =>
                clear hK K
                try simp only [Act.put, List.setIfInBounds_toArray, List.set_cons_zero, List.set_cons_succ]
                refine wpAnyH_take (i := 23) (v := ?v2024) (at_list rfl) (by kernel_rfl) (by kernel_rfl) (by kernel_rfl) (fun _ _ _ h => h) (Or.inl ⟨by rfl, ?hy2024⟩) (by assumption) ?rest2024
                case hy2024 => intro w hSw; (try dsimp only at hSw); go_simp; try (with_reducible rfl)
                case rest2024 =>
                try simp only [Act.put, List.setIfInBounds_toArray, List.set_cons_zero, List.set_cons_succ]
                refine wpAnyH_take (i := 24) (v := ?v2025) (at_list rfl) (by kernel_rfl) (by kernel_rfl) (by kernel_rfl) (fun _ _ _ h => h) (Or.inl ⟨by rfl, ?hy2025⟩) (by assumption) ?rest2025
                case hy2025 => intro w hSw; (try dsimp only at hSw); go_simp; try (with_reducible rfl)
                case rest2025 =>
                try simp only [Act.put, List.setIfInBounds_toArray, List.set_cons_zero, List.set_cons_succ]
                refine wpAnyH_take (i := 25) (v := ?v2026) (at_list rfl) (by kernel_rfl) (by kernel_rfl) (by kernel_rfl) (fun _ _ _ h => h) (Or.inl ⟨by rfl, ?hy2026⟩) (by assumption) ?rest2026
                case hy2026 => intro w hSw; (try dsimp only at hSw); go_simp; try (with_reducible rfl)
                case rest2026 =>
                try simp only [Act.put, List.setIfInBounds_toArray, List.set_cons_zero, List.set_cons_succ]
                refine wpAnyH_take (i := 27) (v := ?v2027) (at_list rfl) (by kernel_rfl) (by kernel_rfl) (by kernel_rfl) (fun _ _ _ h => h) (Or.inl ⟨by rfl, ?hy2027⟩) (by assumption) ?rest2027
                case hy2027 => intro w hSw; (try dsimp only at hSw); go_simp; try (with_reducible rfl)
                case rest2027 =>
                try simp only [Act.put, List.setIfInBounds_toArray, List.set_cons_zero, List.set_cons_succ]
                refine wpAnyH_ready (rs := [26]) (by kernel_rfl) (by simp) ?_
                refine AllReadyH.cons (at_list rfl) (fun K hK => ?_) AllReadyH.nil
                go_simp
                go_at_call 14; refine (HCX.out _ _ _ (by exact HX.out.below (Bx.out (by (first | with_reducible assumption | with_reducible exact bx_alloc (by with_reducible assumption) _ | with_reducible exact bx_drew (by with_reducible assumption) | with_reducible exact bx_drew (bx_alloc (by with_reducible assumption) _)))))).mono ?_; rintro e w40 ⟨rfl, bw40⟩; have hBw40 : Bx (Below w28.heap.size w28 w40) := bx_to (by (first | with_reducible assumption | with_reducible exact bx_alloc (by with_reducible assumption) _ | with_reducible exact bx_drew (by with_reducible assumption) | with_reducible exact bx_drew (bx_alloc (by with_reducible assumption) _))) bw40; have hzw40 := bx_size hBw40; have kgx0_w40 := ((bcell hBw40.out).1 _ _ lt_gx).trans kgx0; have kgx1_w40 := ((bcell hBw40.out).1 _ _ lt_gx).trans kgx1; have kge0_w40 := ((bcell hBw40.out).1 _ _ lt_ge).trans kge0; have kge1_w40 := ((bcell hBw40.out).1 _ _ lt_ge).trans kge1
                refine hK.out _ _ ?hS2028 (fun hHeld => ?rest2028)
                case hS2028 => (try dsimp only); (refine (fun (hK : Bx (Below w28.heap.size w28 _)) => ⟨((bcell hK.out).1 _ _ lt_gx).trans kgx0, ((bcell hK.out).1 _ _ lt_gx).trans kgx1, ((bcell hK.out).1 _ _ lt_ge).trans kge0, ((bcell hK.out).1 _ _ lt_ge).trans kge1, hK⟩) ?_; (first | with_reducible assumption | with_reducible exact bx_alloc (by with_reducible assumption) _ | with_reducible exact bx_drew (by with_reducible assumption) | with_reducible exact bx_drew (bx_alloc (by with_reducible assumption) _)))
                case rest2028 =>
                clear hK K
                try simp only [Act.put, List.setIfInBounds_toArray, List.set_cons_zero, List.set_cons_succ]
                refine wpAnyH_ready (rs := [28]) (by kernel_rfl) (by simp) ?_
                refine AllReadyH.cons (at_list rfl) (fun K hK => ?_) AllReadyH.nil
                go_simp
                go_at_call 22; refine (HSX.out _ _ _ (by exact HX.out.below (Bx.out (by (first | with_reducible assumption | with_reducible exact bx_alloc (by with_reducible assumption) _ | with_reducible exact bx_drew (by with_reducible assumption) | with_reducible exact bx_drew (bx_alloc (by with_reducible assumption) _)))))).mono ?_; rintro e w41 ⟨Bw41, dw41, rfl, bw41⟩; have hBw41 : Bx (Below w28.heap.size w28 w41) := bx_to (by (first | with_reducible assumption | with_reducible exact bx_alloc (by with_reducible assumption) _ | with_reducible exact bx_drew (by with_reducible assumption) | with_reducible exact bx_drew (bx_alloc (by with_reducible assumption) _))) bw41; have hzw41 := bx_size hBw41; have kgx0_w41 := ((bcell hBw41.out).1 _ _ lt_gx).trans kgx0; have kgx1_w41 := ((bcell hBw41.out).1 _ _ lt_gx).trans kgx1; have kge0_w41 := ((bcell hBw41.out).1 _ _ lt_ge).trans kge0; have kge1_w41 := ((bcell hBw41.out).1 _ _ lt_ge).trans kge1
                refine hK.out _ _ ?hS2029 (fun hHeld => ?rest2029)
                case hS2029 => (try dsimp only); (refine (fun (hK : Bx (Below w28.heap.size w28 _)) => ⟨((bcell hK.out).1 _ _ lt_gx).trans kgx0, ((bcell hK.out).1 _ _ lt_gx).trans kgx1, ((bcell hK.out).1 _ _ lt_ge).trans kge0, ((bcell hK.out).1 _ _ lt_ge).trans kge1, hK⟩) ?_; (first | with_reducible assumption | with_reducible exact bx_alloc (by with_reducible assumption) _ | with_reducible exact bx_drew (by with_reducible assumption) | with_reducible exact bx_drew (bx_alloc (by with_reducible assumption) _)))
                case rest2029 =>
                clear hK K
                try simp only [Act.put, List.setIfInBounds_toArray, List.set_cons_zero, List.set_cons_succ]
                refine wpAnyH_take (i := 29) (v := ?v2030) (at_list rfl) (by kernel_rfl) (by kernel_rfl) (by kernel_rfl) (fun _ _ _ h => h) (Or.inl ⟨by rfl, ?hy2030⟩) (by assumption) ?rest2030
                case hy2030 => intro w hSw; (try dsimp only at hSw); go_simp; try (with_reducible rfl)
                case rest2030 =>
                try simp only [Act.put, List.setIfInBounds_toArray, List.set_cons_zero, List.set_cons_succ]
                refine wpAnyH_take (i := 30) (v := ?v2031) (at_list rfl) (by kernel_rfl) (by kernel_rfl) (by kernel_rfl) (fun _ _ _ h => h) (Or.inl ⟨by rfl, ?hy2031⟩) (by assumption) ?rest2031
                case hy2031 => intro w hSw; (try dsimp only at hSw); go_simp; try (with_reducible rfl)
                case rest2031 =>
                try simp only [Act.put, List.setIfInBounds_toArray, List.set_cons_zero, List.set_cons_succ]
                refine wpAnyH_take (i := 31) (v := ?v2032) (at_list rfl) (by kernel_rfl) (by kernel_rfl) (by kernel_rfl) (fun _ _ _ h => h) (Or.inl ⟨by rfl, ?hy2032⟩) (by assumption) ?rest2032
                case hy2032 => intro w hSw; (try dsimp only at hSw); go_simp; try (with_reducible rfl)
                case rest2032 =>
                try simp only [Act.put, List.setIfInBounds_toArray, List.set_cons_zero, List.set_cons_succ]
                refine wpAnyH_ready (rs := [32]) (by kernel_rfl) (by simp) ?_
                refine AllReadyH.cons (at_list rfl) (fun K hK => ?_) AllReadyH.nil
                go_simp
                refine hK.out _ _ ?hS2033 (fun hHeld => ?rest2033)
                case hS2033 => (try dsimp only); (refine (fun (hK : Bx (Below w28.heap.size w28 _)) => ⟨((bcell hK.out).1 _ _ lt_gx).trans kgx0, ((bcell hK.out).1 _ _ lt_gx).trans kgx1, ((bcell hK.out).1 _ _ lt_ge).trans kge0, ((bcell hK.out).1 _ _ lt_ge).trans kge1, hK⟩) ?_; (first | with_reducible assumption | with_reducible exact bx_alloc (by with_reducible assumption) _ | with_reducible exact bx_drew (by with_reducible assumption) | with_reducible exact bx_drew (bx_alloc (by with_reducible assumption) _)))
                case rest2033 =>
                clear hK K
                try simp only [Act.put, List.setIfInBounds_toArray, List.set_cons_zero, List.set_cons_succ]
                refine wpAnyH_done (by kernel_rfl) ?_ _
                have b := hBw41.out
                replace kgx0 := ((bcell b).1 _ _ lt_gx).trans kgx0
                replace kgx1 := ((bcell b).1 _ _ lt_gx).trans kgx1
                replace kge0 := ((bcell b).1 _ _ lt_ge).trans kge0
                replace kge1 := ((bcell b).1 _ _ lt_ge).trans kge1
                replace lt_gx := Nat.lt_of_lt_of_le lt_gx b.size
                replace lt_ge := Nat.lt_of_lt_of_le lt_ge b.size
                replace HX := Bx.mk (HX.out.below b)
                replace HE := Bx.mk (HE.out.below b)
                replace bw := bw.trans (b.mono bw.size)
                clear b
                go_wp2_with fail
                go_ret
                exact ⟨rfl, bw⟩
            | false =>
              clear HTI
              by_cases hg1 : gx2 = 1
              · skip
                have hgb : ((gx2 : Int) != 1) = false := by rw [bne_eq_false_iff_eq]; omega
                have hie := HEI.out hg1
                have HIE : Bx (∀ A c W, IR W A E → Calls Try.prog 13 #[.agg #[.int .i64 n, .slice A E.length c]] W fun e w' => e = .returned (.bool true) ∧ Below W.heap.size W w') := ⟨fun A c W h => by have := implIsGen_any n A c E W ⟨by omega, by omega⟩ h; rw [hie] at this; exact this⟩
                clear hie
                clear HEI hg1
                have hB : Bx (Below w28.heap.size w28 w28.drew) := ⟨(Below.refl _ _).drew⟩
                have hB0 : Bx (Below w28.heap.size w28 w28) := ⟨Below.refl _ _⟩
                have kgx0_d : w28.drew.cell? _ = _ := kgx0
                have kgx1_d : w28.drew.cell? _ = _ := kgx1
                have kge0_d : w28.drew.cell? _ = _ := kge0
                have kge1_d : w28.drew.cell? _ = _ := kge1
                refine wp_region_held_drew (S := fun w' => w'.cell? ⟨gx, 0, none⟩ = some (.int .i64 n) ∧ w'.cell? ⟨gx, 1, none⟩ = some (.slice Ax x.length cx) ∧ w'.cell? ⟨ge, 0, none⟩ = some (.int .i64 n) ∧ w'.cell? ⟨ge, 1, none⟩ = some (.slice AE E.length cE) ∧ Bx (Below w28.heap.size w28 w')) (by kernel_rfl) ?hS3000 (fun hHeld => ?rest3000)
                case hS3000 => (try dsimp only); (refine (fun (hK : Bx (Below w28.heap.size w28 _)) => ⟨((bcell hK.out).1 _ _ lt_gx).trans kgx0, ((bcell hK.out).1 _ _ lt_gx).trans kgx1, ((bcell hK.out).1 _ _ lt_ge).trans kge0, ((bcell hK.out).1 _ _ lt_ge).trans kge1, hK⟩) ?_; (first | with_reducible assumption | with_reducible exact bx_alloc (by with_reducible assumption) _ | with_reducible exact bx_drew (by with_reducible assumption) | with_reducible exact bx_drew (bx_alloc (by with_reducible assumption) _)))
                case rest3000 =>
                refine wpAnyH_take (i := 0) (v := ?v3001) (at_list rfl) (by kernel_rfl) (by kernel_rfl) (by kernel_rfl) (fun _ _ _ h => h) (Or.inl ⟨by rfl, ?hy3001⟩) (by assumption) ?rest3001
                case hy3001 => intro w hSw; (try dsimp only at hSw); go_simp; try (with_reducible rfl)
                case rest3001 =>
                try simp only [Act.put, List.setIfInBounds_toArray, List.set_cons_zero, List.set_cons_succ]
                refine wpAnyH_ready (rs := [1]) (by kernel_rfl) (by simp) ?_
                refine AllReadyH.cons (at_list rfl) (fun K hK => ?_) AllReadyH.nil
                go_simp
                go_at_call 21; refine (HTX.out _ _ _ (by exact HX.out.below (Bx.out (by (first | with_reducible assumption | with_reducible exact bx_alloc (by with_reducible assumption) _ | with_reducible exact bx_drew (by with_reducible assumption) | with_reducible exact bx_drew (bx_alloc (by with_reducible assumption) _)))))).mono ?_; rintro e w42 ⟨rfl, bw42⟩; have hBw42 : Bx (Below w28.heap.size w28 w42) := bx_to (by (first | with_reducible assumption | with_reducible exact bx_alloc (by with_reducible assumption) _ | with_reducible exact bx_drew (by with_reducible assumption) | with_reducible exact bx_drew (bx_alloc (by with_reducible assumption) _))) bw42; have hzw42 := bx_size hBw42; have kgx0_w42 := ((bcell hBw42.out).1 _ _ lt_gx).trans kgx0; have kgx1_w42 := ((bcell hBw42.out).1 _ _ lt_gx).trans kgx1; have kge0_w42 := ((bcell hBw42.out).1 _ _ lt_ge).trans kge0; have kge1_w42 := ((bcell hBw42.out).1 _ _ lt_ge).trans kge1
                refine hK.out _ _ ?hS3002 (fun hHeld => ?rest3002)
                case hS3002 => (try dsimp only); (refine (fun (hK : Bx (Below w28.heap.size w28 _)) => ⟨((bcell hK.out).1 _ _ lt_gx).trans kgx0, ((bcell hK.out).1 _ _ lt_gx).trans kgx1, ((bcell hK.out).1 _ _ lt_ge).trans kge0, ((bcell hK.out).1 _ _ lt_ge).trans kge1, hK⟩) ?_; (first | with_reducible assumption | with_reducible exact bx_alloc (by with_reducible assumption) _ | with_reducible exact bx_drew (by with_reducible assumption) | with_reducible exact bx_drew (bx_alloc (by with_reducible assumption) _)))
                case rest3002 =>
                clear hK K
                try simp only [Act.put, List.setIfInBounds_toArray, List.set_cons_zero, List.set_cons_succ]
                refine wpAnyH_take (i := 2) (v := ?v3003) (at_list rfl) (by kernel_rfl) (by kernel_rfl) (by kernel_rfl) (fun _ _ _ h => h) (Or.inl ⟨by rfl, ?hy3003⟩) (by assumption) ?rest3003
                case hy3003 => intro w hSw; (try dsimp only at hSw); go_simp; try (with_reducible rfl)
                case rest3003 =>
                try simp only [Act.put, List.setIfInBounds_toArray, List.set_cons_zero, List.set_cons_succ]
                refine wpAnyH_take (i := 3) (v := ?v3004) (at_list rfl) (by kernel_rfl) (by kernel_rfl) (by kernel_rfl) (fun _ _ _ h => h) (Or.inl ⟨by rfl, ?hy3004⟩) (by assumption) ?rest3004
                case hy3004 => intro w hSw; (try dsimp only at hSw); go_simp; try (with_reducible rfl)
                case rest3004 =>
                try simp only [Act.put, List.setIfInBounds_toArray, List.set_cons_zero, List.set_cons_succ]
                refine wpAnyH_take (i := 4) (v := undef) (at_list rfl) (by kernel_rfl) (by kernel_rfl) (by kernel_rfl) (fun _ _ _ h => h) (Or.inr ⟨by rfl, rfl⟩) (by assumption) ?rest3005
                case rest3005 =>
                try simp only [Act.put, List.setIfInBounds_toArray, List.set_cons_zero, List.set_cons_succ]
                refine wpAnyH_take (i := 5) (v := undef) (at_list rfl) (by kernel_rfl) (by kernel_rfl) (by kernel_rfl) (fun _ _ _ h => h) (Or.inr ⟨by rfl, rfl⟩) (by assumption) ?rest3006
                case rest3006 =>
                try simp only [Act.put, List.setIfInBounds_toArray, List.set_cons_zero, List.set_cons_succ]
                refine wpAnyH_take (i := 6) (v := ?v3007) (at_list rfl) (by kernel_rfl) (by kernel_rfl) (by kernel_rfl) (fun _ _ _ h => h) (Or.inl ⟨by rfl, ?hy3007⟩) (by assumption) ?rest3007
                case hy3007 => intro w hSw; (try dsimp only at hSw); go_simp; try (with_reducible rfl)
                case rest3007 =>
                try simp only [Act.put, List.setIfInBounds_toArray, List.set_cons_zero, List.set_cons_succ]
                refine wpAnyH_take (i := 7) (v := ?v3008) (at_list rfl) (by kernel_rfl) (by kernel_rfl) (by kernel_rfl) (fun _ _ _ h => h) (Or.inl ⟨by rfl, ?hy3008⟩) (by assumption) ?rest3008
                case hy3008 => intro w hSw; (try dsimp only at hSw); go_simp; try (with_reducible rfl)
                case rest3008 =>
                try simp only [Act.put, List.setIfInBounds_toArray, List.set_cons_zero, List.set_cons_succ]
                refine wpAnyH_take (i := 8) (v := ?v3009) (at_list rfl) (by kernel_rfl) (by kernel_rfl) (by kernel_rfl) (fun _ _ _ h => h) (Or.inl ⟨by rfl, ?hy3009⟩) (by assumption) ?rest3009
                case hy3009 => intro w hSw; (try dsimp only at hSw); go_simp; try (with_reducible rfl)
                case rest3009 =>
                try simp only [Act.put, List.setIfInBounds_toArray, List.set_cons_zero, List.set_cons_succ]
                refine wpAnyH_take (i := 9) (v := ?v3010) (at_list rfl) (by kernel_rfl) (by kernel_rfl) (by kernel_rfl) (fun _ _ _ h => h) (Or.inl ⟨by rfl, ?hy3010⟩) (by assumption) ?rest3010
                case hy3010 => intro w hSw; (try dsimp only at hSw); go_simp; try (with_reducible rfl)
                case rest3010 =>
                try simp only [Act.put, List.setIfInBounds_toArray, List.set_cons_zero, List.set_cons_succ]
                refine wpAnyH_take (i := 10) (v := ?v3011) (at_list rfl) (by kernel_rfl) (by kernel_rfl) (by kernel_rfl) (fun _ _ _ h => h) (Or.inl ⟨by rfl, ?hy3011⟩) (by assumption) ?rest3011
                case hy3011 => intro w hSw; (try dsimp only at hSw); go_simp; try (with_reducible rfl)
                case rest3011 =>
                try simp only [Act.put, List.setIfInBounds_toArray, List.set_cons_zero, List.set_cons_succ]
                refine wpAnyH_take (i := 11) (v := ?v3012) (at_list rfl) (by kernel_rfl) (by kernel_rfl) (by kernel_rfl) (fun _ _ _ h => h) (Or.inl ⟨by rfl, ?hy3012⟩) (by assumption) ?rest3012
                case hy3012 => intro w hSw; (try dsimp only at hSw); go_simp; try (with_reducible rfl)
                case rest3012 =>
                try simp only [Act.put, List.setIfInBounds_toArray, List.set_cons_zero, List.set_cons_succ]
                refine wpAnyH_ready (rs := [12]) (by kernel_rfl) (by simp) ?_
                refine AllReadyH.cons (at_list rfl) (fun K hK => ?_) AllReadyH.nil
                go_simp
                go_at_call 6; refine (HGX.out _).mono ?_; rintro e w43 ⟨rfl, bw43⟩; have hBw43 : Bx (Below w28.heap.size w28 w43) := bx_to (by (first | with_reducible assumption | with_reducible exact bx_alloc (by with_reducible assumption) _ | with_reducible exact bx_drew (by with_reducible assumption) | with_reducible exact bx_drew (bx_alloc (by with_reducible assumption) _))) bw43; have hzw43 := bx_size hBw43; have kgx0_w43 := ((bcell hBw43.out).1 _ _ lt_gx).trans kgx0; have kgx1_w43 := ((bcell hBw43.out).1 _ _ lt_gx).trans kgx1; have kge0_w43 := ((bcell hBw43.out).1 _ _ lt_ge).trans kge0; have kge1_w43 := ((bcell hBw43.out).1 _ _ lt_ge).trans kge1
                refine hK.out _ _ ?hS3013 (fun hHeld => ?rest3013)
                case hS3013 => (try dsimp only); (refine (fun (hK : Bx (Below w28.heap.size w28 _)) => ⟨((bcell hK.out).1 _ _ lt_gx).trans kgx0, ((bcell hK.out).1 _ _ lt_gx).trans kgx1, ((bcell hK.out).1 _ _ lt_ge).trans kge0, ((bcell hK.out).1 _ _ lt_ge).trans kge1, hK⟩) ?_; (first | with_reducible assumption | with_reducible exact bx_alloc (by with_reducible assumption) _ | with_reducible exact bx_drew (by with_reducible assumption) | with_reducible exact bx_drew (bx_alloc (by with_reducible assumption) _)))
                case rest3013 =>
                clear hK K
                try simp only [Act.put, List.setIfInBounds_toArray, List.set_cons_zero, List.set_cons_succ]
                refine wpAnyH_take (i := 13) (v := ?v3014) (at_list rfl) (by kernel_rfl) (by kernel_rfl) (by kernel_rfl) (fun _ _ _ h => h) (Or.inl ⟨by rfl, ?hy3014⟩) (by assumption) ?rest3014
                case hy3014 => intro w hSw; (try dsimp only at hSw); go_simp; try (with_reducible rfl)
                case rest3014 =>
                try simp only [Act.put, List.setIfInBounds_toArray, List.set_cons_zero, List.set_cons_succ]
                refine wpAnyH_take (i := 14) (v := ?v3015) (at_list rfl) (by kernel_rfl) (by kernel_rfl) (by kernel_rfl) (fun _ _ _ h => h) (Or.inl ⟨by rfl, ?hy3015⟩) (by assumption) ?rest3015
                case hy3015 => intro w hSw; (try dsimp only at hSw); go_simp; try (with_reducible rfl)
                case rest3015 =>
                try simp only [Act.put, List.setIfInBounds_toArray, List.set_cons_zero, List.set_cons_succ]
                refine wpAnyH_take (i := 15) (v := ?v3016) (at_list rfl) (by kernel_rfl) (by kernel_rfl) (by kernel_rfl) (fun _ _ _ h => h) (Or.inl ⟨by rfl, ?hy3016⟩) (by assumption) ?rest3016
                case hy3016 => intro w hSw; (try dsimp only at hSw); go_simp; try (with_reducible rfl)
                case rest3016 =>
                try simp only [Act.put, List.setIfInBounds_toArray, List.set_cons_zero, List.set_cons_succ]
                refine wpAnyH_ready (rs := [16]) (by kernel_rfl) (by simp) ?_
                refine AllReadyH.cons (at_list rfl) (fun K hK => ?_) AllReadyH.nil
                go_simp
                go_at_call 13; refine (HIE.out _ _ _ (by exact HE.out.below (Bx.out (by (first | with_reducible assumption | with_reducible exact bx_alloc (by with_reducible assumption) _ | with_reducible exact bx_drew (by with_reducible assumption) | with_reducible exact bx_drew (bx_alloc (by with_reducible assumption) _)))))).mono ?_; rintro e w44 ⟨rfl, bw44⟩; have hBw44 : Bx (Below w28.heap.size w28 w44) := bx_to (by (first | with_reducible assumption | with_reducible exact bx_alloc (by with_reducible assumption) _ | with_reducible exact bx_drew (by with_reducible assumption) | with_reducible exact bx_drew (bx_alloc (by with_reducible assumption) _))) bw44; have hzw44 := bx_size hBw44; have kgx0_w44 := ((bcell hBw44.out).1 _ _ lt_gx).trans kgx0; have kgx1_w44 := ((bcell hBw44.out).1 _ _ lt_gx).trans kgx1; have kge0_w44 := ((bcell hBw44.out).1 _ _ lt_ge).trans kge0; have kge1_w44 := ((bcell hBw44.out).1 _ _ lt_ge).trans kge1
                refine hK.out _ _ ?hS3017 (fun hHeld => ?rest3017)
                case hS3017 => (try dsimp only); (refine (fun (hK : Bx (Below w28.heap.size w28 _)) => ⟨((bcell hK.out).1 _ _ lt_gx).trans kgx0, ((bcell hK.out).1 _ _ lt_gx).trans kgx1, ((bcell hK.out).1 _ _ lt_ge).trans kge0, ((bcell hK.out).1 _ _ lt_ge).trans kge1, hK⟩) ?_; (first | with_reducible assumption | with_reducible exact bx_alloc (by with_reducible assumption) _ | with_reducible exact bx_drew (by with_reducible assumption) | with_reducible exact bx_drew (bx_alloc (by with_reducible assumption) _)))
                case rest3017 =>
                clear hK K
                try simp only [Act.put, List.setIfInBounds_toArray, List.set_cons_zero, List.set_cons_succ]
                refine wpAnyH_take (i := 17) (v := ?v3018) (at_list rfl) (by kernel_rfl) (by kernel_rfl) (by kernel_rfl) (fun _ _ _ h => h) (Or.inl ⟨by rfl, ?hy3018⟩) (by assumption) ?rest3018
                case hy3018 => intro w hSw; (try dsimp only at hSw); go_simp; try (with_reducible rfl)
                case rest3018 =>
                try simp only [Act.put, List.setIfInBounds_toArray, List.set_cons_zero, List.set_cons_succ]
                refine wpAnyH_take (i := 18) (v := ?v3019) (at_list rfl) (by kernel_rfl) (by kernel_rfl) (by kernel_rfl) (fun _ _ _ h => h) (Or.inl ⟨by rfl, ?hy3019⟩) (by assumption) ?rest3019
                case hy3019 => intro w hSw; (try dsimp only at hSw); go_simp; try (with_reducible rfl)
                case rest3019 =>
                try simp only [Act.put, List.setIfInBounds_toArray, List.set_cons_zero, List.set_cons_succ]
                refine wpAnyH_take (i := 19) (v := ?v3020) (at_list rfl) (by kernel_rfl) (by kernel_rfl) (by kernel_rfl) (fun _ _ _ h => h) (Or.inl ⟨by rfl, ?hy3020⟩) (by assumption) ?rest3020
                case hy3020 => intro w hSw; (try dsimp only at hSw); go_simp; try (with_reducible rfl)
                case rest3020 =>
                try simp only [Act.put, List.setIfInBounds_toArray, List.set_cons_zero, List.set_cons_succ]
                refine wpAnyH_ready (rs := [20]) (by kernel_rfl) (by simp) ?_
                refine AllReadyH.cons (at_list rfl) (fun K hK => ?_) AllReadyH.nil
                go_simp
                refine hK.out _ _ ?hS3021 (fun hHeld => ?rest3021)
                case hS3021 => (try dsimp only); (refine (fun (hK : Bx (Below w28.heap.size w28 _)) => ⟨((bcell hK.out).1 _ _ lt_gx).trans kgx0, ((bcell hK.out).1 _ _ lt_gx).trans kgx1, ((bcell hK.out).1 _ _ lt_ge).trans kge0, ((bcell hK.out).1 _ _ lt_ge).trans kge1, hK⟩) ?_; (first | with_reducible assumption | with_reducible exact bx_alloc (by with_reducible assumption) _ | with_reducible exact bx_drew (by with_reducible assumption) | with_reducible exact bx_drew (bx_alloc (by with_reducible assumption) _)))
                case rest3021 =>
                clear hK K
                try simp only [Act.put, List.setIfInBounds_toArray, List.set_cons_zero, List.set_cons_succ]
                refine wpAnyH_take (i := 21) (v := ?v3022) (at_list rfl) (by kernel_rfl) (by kernel_rfl) (by kernel_rfl) (fun _ _ _ h => h) (Or.inl ⟨by rfl, ?hy3022⟩) (by assumption) ?rest3022
                case hy3022 => intro w hSw; (try dsimp only at hSw); go_simp; try (with_reducible rfl)
                case rest3022 =>
                try simp only [Act.put, List.setIfInBounds_toArray, List.set_cons_zero, List.set_cons_succ]
                refine wpAnyH_ready (rs := [22]) (by kernel_rfl) (by simp) ?_
                refine AllReadyH.cons (at_list rfl) (fun K hK => ?_) AllReadyH.nil
                go_simp
                go_at_call 21; refine (HTL.out _ _ _ (by exact gw_lit _)).mono ?_; rintro e w45 ⟨rfl, bw45⟩; have hBw45 : Bx (Below w28.heap.size w28 w45) := bx_to (by (first | with_reducible assumption | with_reducible exact bx_alloc (by with_reducible assumption) _ | with_reducible exact bx_drew (by with_reducible assumption) | with_reducible exact bx_drew (bx_alloc (by with_reducible assumption) _))) bw45; have hzw45 := bx_size hBw45; have kgx0_w45 := ((bcell hBw45.out).1 _ _ lt_gx).trans kgx0; have kgx1_w45 := ((bcell hBw45.out).1 _ _ lt_gx).trans kgx1; have kge0_w45 := ((bcell hBw45.out).1 _ _ lt_ge).trans kge0; have kge1_w45 := ((bcell hBw45.out).1 _ _ lt_ge).trans kge1
                refine hK.out _ _ ?hS3023 (fun hHeld => ?rest3023)
                case hS3023 => (try dsimp only); (refine (fun (hK : Bx (Below w28.heap.size w28 _)) => ⟨((bcell hK.out).1 _ _ lt_gx).trans kgx0, ((bcell hK.out).1 _ _ lt_gx).trans kgx1, ((bcell hK.out).1 _ _ lt_ge).trans kge0, ((bcell hK.out).1 _ _ lt_ge).trans kge1, hK⟩) ?_; (first | with_reducible assumption | with_reducible exact bx_alloc (by with_reducible assumption) _ | with_reducible exact bx_drew (by with_reducible assumption) | with_reducible exact bx_drew (bx_alloc (by with_reducible assumption) _)))
                case rest3023 =>
                clear hK K
                try simp only [Act.put, List.setIfInBounds_toArray, List.set_cons_zero, List.set_cons_succ]
                refine wpAnyH_take (i := 23) (v := ?v3024) (at_list rfl) (by kernel_rfl) (by kernel_rfl) (by kernel_rfl) (fun _ _ _ h => h) (Or.inl ⟨by rfl, ?hy3024⟩) (by assumption) ?rest3024
                case hy3024 => intro w hSw; (try dsimp only at hSw); go_simp; try (with_reducible rfl)
                case rest3024 =>
                try simp only [Act.put, List.setIfInBounds_toArray, List.set_cons_zero, List.set_cons_succ]
                refine wpAnyH_take (i := 24) (v := ?v3025) (at_list rfl) (by kernel_rfl) (by kernel_rfl) (by kernel_rfl) (fun _ _ _ h => h) (Or.inl ⟨by rfl, ?hy3025⟩) (by assumption) ?rest3025
                case hy3025 => intro w hSw; (try dsimp only at hSw); go_simp; try (with_reducible rfl)
                case rest3025 =>
                try simp only [Act.put, List.setIfInBounds_toArray, List.set_cons_zero, List.set_cons_succ]
                refine wpAnyH_take (i := 25) (v := ?v3026) (at_list rfl) (by kernel_rfl) (by kernel_rfl) (by kernel_rfl) (fun _ _ _ h => h) (Or.inl ⟨by rfl, ?hy3026⟩) (by assumption) ?rest3026
                case hy3026 => intro w hSw; (try dsimp only at hSw); go_simp; try (with_reducible rfl)
                case rest3026 =>
                try simp only [Act.put, List.setIfInBounds_toArray, List.set_cons_zero, List.set_cons_succ]
                refine wpAnyH_take (i := 27) (v := ?v3027) (at_list rfl) (by kernel_rfl) (by kernel_rfl) (by kernel_rfl) (fun _ _ _ h => h) (Or.inl ⟨by rfl, ?hy3027⟩) (by assumption) ?rest3027
                case hy3027 => intro w hSw; (try dsimp only at hSw); go_simp; try (with_reducible rfl)
                case rest3027 =>
                try simp only [Act.put, List.setIfInBounds_toArray, List.set_cons_zero, List.set_cons_succ]
                refine wpAnyH_ready (rs := [26]) (by kernel_rfl) (by simp) ?_
                refine AllReadyH.cons (at_list rfl) (fun K hK => ?_) AllReadyH.nil
                go_simp
                go_at_call 14; refine (HCX.out _ _ _ (by exact HX.out.below (Bx.out (by (first | with_reducible assumption | with_reducible exact bx_alloc (by with_reducible assumption) _ | with_reducible exact bx_drew (by with_reducible assumption) | with_reducible exact bx_drew (bx_alloc (by with_reducible assumption) _)))))).mono ?_; rintro e w46 ⟨rfl, bw46⟩; have hBw46 : Bx (Below w28.heap.size w28 w46) := bx_to (by (first | with_reducible assumption | with_reducible exact bx_alloc (by with_reducible assumption) _ | with_reducible exact bx_drew (by with_reducible assumption) | with_reducible exact bx_drew (bx_alloc (by with_reducible assumption) _))) bw46; have hzw46 := bx_size hBw46; have kgx0_w46 := ((bcell hBw46.out).1 _ _ lt_gx).trans kgx0; have kgx1_w46 := ((bcell hBw46.out).1 _ _ lt_gx).trans kgx1; have kge0_w46 := ((bcell hBw46.out).1 _ _ lt_ge).trans kge0; have kge1_w46 := ((bcell hBw46.out).1 _ _ lt_ge).trans kge1
                refine hK.out _ _ ?hS3028 (fun hHeld => ?rest3028)
                case hS3028 => (try dsimp only); (refine (fun (hK : Bx (Below w28.heap.size w28 _)) => ⟨((bcell hK.out).1 _ _ lt_gx).trans kgx0, ((bcell hK.out).1 _ _ lt_gx).trans kgx1, ((bcell hK.out).1 _ _ lt_ge).trans kge0, ((bcell hK.out).1 _ _ lt_ge).trans kge1, hK⟩) ?_; (first | with_reducible assumption | with_reducible exact bx_alloc (by with_reducible assumption) _ | with_reducible exact bx_drew (by with_reducible assumption) | with_reducible exact bx_drew (bx_alloc (by with_reducible assumption) _)))
                case rest3028 =>
                clear hK K
                try simp only [Act.put, List.setIfInBounds_toArray, List.set_cons_zero, List.set_cons_succ]
                refine wpAnyH_ready (rs := [28]) (by kernel_rfl) (by simp) ?_
                refine AllReadyH.cons (at_list rfl) (fun K hK => ?_) AllReadyH.nil
                go_simp
                go_at_call 22; refine (HSX.out _ _ _ (by exact HX.out.below (Bx.out (by (first | with_reducible assumption | with_reducible exact bx_alloc (by with_reducible assumption) _ | with_reducible exact bx_drew (by with_reducible assumption) | with_reducible exact bx_drew (bx_alloc (by with_reducible assumption) _)))))).mono ?_; rintro e w47 ⟨Bw47, dw47, rfl, bw47⟩; have hBw47 : Bx (Below w28.heap.size w28 w47) := bx_to (by (first | with_reducible assumption | with_reducible exact bx_alloc (by with_reducible assumption) _ | with_reducible exact bx_drew (by with_reducible assumption) | with_reducible exact bx_drew (bx_alloc (by with_reducible assumption) _))) bw47; have hzw47 := bx_size hBw47; have kgx0_w47 := ((bcell hBw47.out).1 _ _ lt_gx).trans kgx0; have kgx1_w47 := ((bcell hBw47.out).1 _ _ lt_gx).trans kgx1; have kge0_w47 := ((bcell hBw47.out).1 _ _ lt_ge).trans kge0; have kge1_w47 := ((bcell hBw47.out).1 _ _ lt_ge).trans kge1
                refine hK.out _ _ ?hS3029 (fun hHeld => ?rest3029)
                case hS3029 => (try dsimp only); (refine (fun (hK : Bx (Below w28.heap.size w28 _)) => ⟨((bcell hK.out).1 _ _ lt_gx).trans kgx0, ((bcell hK.out).1 _ _ lt_gx).trans kgx1, ((bcell hK.out).1 _ _ lt_ge).trans kge0, ((bcell hK.out).1 _ _ lt_ge).trans kge1, hK⟩) ?_; (first | with_reducible assumption | with_reducible exact bx_alloc (by with_reducible assumption) _ | with_reducible exact bx_drew (by with_reducible assumption) | with_reducible exact bx_drew (bx_alloc (by with_reducible assumption) _)))
                case rest3029 =>
                clear hK K
                try simp only [Act.put, List.setIfInBounds_toArray, List.set_cons_zero, List.set_cons_succ]
                refine wpAnyH_take (i := 29) (v := ?v3030) (at_list rfl) (by kernel_rfl) (by kernel_rfl) (by kernel_rfl) (fun _ _ _ h => h) (Or.inl ⟨by rfl, ?hy3030⟩) (by assumption) ?rest3030
                case hy3030 => intro w hSw; (try dsimp only at hSw); go_simp; try (with_reducible rfl)
                case rest3030 =>
                try simp only [Act.put, List.setIfInBounds_toArray, List.set_cons_zero, List.set_cons_succ]
                refine wpAnyH_take (i := 30) (v := ?v3031) (at_list rfl) (by kernel_rfl) (by kernel_rfl) (by kernel_rfl) (fun _ _ _ h => h) (Or.inl ⟨by rfl, ?hy3031⟩) (by assumption) ?rest3031
                case hy3031 => intro w hSw; (try dsimp only at hSw); go_simp; try (with_reducible rfl)
                case rest3031 =>
                try simp only [Act.put, List.setIfInBounds_toArray, List.set_cons_zero, List.set_cons_succ]
                refine wpAnyH_take (i := 31) (v := ?v3032) (at_list rfl) (by kernel_rfl) (by kernel_rfl) (by kernel_rfl) (fun _ _ _ h => h) (Or.inl ⟨by rfl, ?hy3032⟩) (by assumption) ?rest3032
                case hy3032 => intro w hSw; (try dsimp only at hSw); go_simp; try (with_reducible rfl)
                case rest3032 =>
                try simp only [Act.put, List.setIfInBounds_toArray, List.set_cons_zero, List.set_cons_succ]
                refine wpAnyH_ready (rs := [32]) (by kernel_rfl) (by simp) ?_
                refine AllReadyH.cons (at_list rfl) (fun K hK => ?_) AllReadyH.nil
                go_simp
                refine hK.out _ _ ?hS3033 (fun hHeld => ?rest3033)
                case hS3033 => (try dsimp only); (refine (fun (hK : Bx (Below w28.heap.size w28 _)) => ⟨((bcell hK.out).1 _ _ lt_gx).trans kgx0, ((bcell hK.out).1 _ _ lt_gx).trans kgx1, ((bcell hK.out).1 _ _ lt_ge).trans kge0, ((bcell hK.out).1 _ _ lt_ge).trans kge1, hK⟩) ?_; (first | with_reducible assumption | with_reducible exact bx_alloc (by with_reducible assumption) _ | with_reducible exact bx_drew (by with_reducible assumption) | with_reducible exact bx_drew (bx_alloc (by with_reducible assumption) _)))
                case rest3033 =>
                clear hK K
                try simp only [Act.put, List.setIfInBounds_toArray, List.set_cons_zero, List.set_cons_succ]
                refine wpAnyH_done (by kernel_rfl) ?_ _
                have b := hBw47.out
                replace kgx0 := ((bcell b).1 _ _ lt_gx).trans kgx0
                replace kgx1 := ((bcell b).1 _ _ lt_gx).trans kgx1
                replace kge0 := ((bcell b).1 _ _ lt_ge).trans kge0
                replace kge1 := ((bcell b).1 _ _ lt_ge).trans kge1
                replace lt_gx := Nat.lt_of_lt_of_le lt_gx b.size
                replace lt_ge := Nat.lt_of_lt_of_le lt_ge b.size
                replace HX := Bx.mk (HX.out.below b)
                replace HE := Bx.mk (HE.out.below b)
                replace bw := bw.trans (b.mono bw.size)
                clear b
                go_wp2_with fail
                go_ret
                exact ⟨rfl, bw⟩
              · skip
                have hgb : ((gx2 : Int) != 1) = true := by rw [bne_iff_ne]; omega
                clear HEI hg1
                have hB : Bx (Below w28.heap.size w28 w28.drew) := ⟨(Below.refl _ _).drew⟩
                have hB0 : Bx (Below w28.heap.size w28 w28) := ⟨Below.refl _ _⟩
                have kgx0_d : w28.drew.cell? _ = _ := kgx0
                have kgx1_d : w28.drew.cell? _ = _ := kgx1
                have kge0_d : w28.drew.cell? _ = _ := kge0
                have kge1_d : w28.drew.cell? _ = _ := kge1
                refine wp_region_held_drew (S := fun w' => w'.cell? ⟨gx, 0, none⟩ = some (.int .i64 n) ∧ w'.cell? ⟨gx, 1, none⟩ = some (.slice Ax x.length cx) ∧ w'.cell? ⟨ge, 0, none⟩ = some (.int .i64 n) ∧ w'.cell? ⟨ge, 1, none⟩ = some (.slice AE E.length cE) ∧ Bx (Below w28.heap.size w28 w')) (by kernel_rfl) ?hS4000 (fun hHeld => ?rest4000)
                case hS4000 => (try dsimp only); (refine (fun (hK : Bx (Below w28.heap.size w28 _)) => ⟨((bcell hK.out).1 _ _ lt_gx).trans kgx0, ((bcell hK.out).1 _ _ lt_gx).trans kgx1, ((bcell hK.out).1 _ _ lt_ge).trans kge0, ((bcell hK.out).1 _ _ lt_ge).trans kge1, hK⟩) ?_; (first | with_reducible assumption | with_reducible exact bx_alloc (by with_reducible assumption) _ | with_reducible exact bx_drew (by with_reducible assumption) | with_reducible exact bx_drew (bx_alloc (by with_reducible assumption) _)))
                case rest4000 =>
                refine wpAnyH_take (i := 0) (v := ?v4001) (at_list rfl) (by kernel_rfl) (by kernel_rfl) (by kernel_rfl) (fun _ _ _ h => h) (Or.inl ⟨by rfl, ?hy4001⟩) (by assumption) ?rest4001
                case hy4001 => intro w hSw; (try dsimp only at hSw); go_simp; try (with_reducible rfl)
                case rest4001 =>
                try simp only [Act.put, List.setIfInBounds_toArray, List.set_cons_zero, List.set_cons_succ]
                refine wpAnyH_ready (rs := [1]) (by kernel_rfl) (by simp) ?_
                refine AllReadyH.cons (at_list rfl) (fun K hK => ?_) AllReadyH.nil
                go_simp
                go_at_call 21; refine (HTX.out _ _ _ (by exact HX.out.below (Bx.out (by (first | with_reducible assumption | with_reducible exact bx_alloc (by with_reducible assumption) _ | with_reducible exact bx_drew (by with_reducible assumption) | with_reducible exact bx_drew (bx_alloc (by with_reducible assumption) _)))))).mono ?_; rintro e w48 ⟨rfl, bw48⟩; have hBw48 : Bx (Below w28.heap.size w28 w48) := bx_to (by (first | with_reducible assumption | with_reducible exact bx_alloc (by with_reducible assumption) _ | with_reducible exact bx_drew (by with_reducible assumption) | with_reducible exact bx_drew (bx_alloc (by with_reducible assumption) _))) bw48; have hzw48 := bx_size hBw48; have kgx0_w48 := ((bcell hBw48.out).1 _ _ lt_gx).trans kgx0; have kgx1_w48 := ((bcell hBw48.out).1 _ _ lt_gx).trans kgx1; have kge0_w48 := ((bcell hBw48.out).1 _ _ lt_ge).trans kge0; have kge1_w48 := ((bcell hBw48.out).1 _ _ lt_ge).trans kge1
                refine hK.out _ _ ?hS4002 (fun hHeld => ?rest4002)
                case hS4002 => (try dsimp only); (refine (fun (hK : Bx (Below w28.heap.size w28 _)) => ⟨((bcell hK.out).1 _ _ lt_gx).trans kgx0, ((bcell hK.out).1 _ _ lt_gx).trans kgx1, ((bcell hK.out).1 _ _ lt_ge).trans kge0, ((bcell hK.out).1 _ _ lt_ge).trans kge1, hK⟩) ?_; (first | with_reducible assumption | with_reducible exact bx_alloc (by with_reducible assumption) _ | with_reducible exact bx_drew (by with_reducible assumption) | with_reducible exact bx_drew (bx_alloc (by with_reducible assumption) _)))
                case rest4002 =>
                clear hK K
                try simp only [Act.put, List.setIfInBounds_toArray, List.set_cons_zero, List.set_cons_succ]
                refine wpAnyH_take (i := 2) (v := ?v4003) (at_list rfl) (by kernel_rfl) (by kernel_rfl) (by kernel_rfl) (fun _ _ _ h => h) (Or.inl ⟨by rfl, ?hy4003⟩) (by assumption) ?rest4003
                case hy4003 => intro w hSw; (try dsimp only at hSw); go_simp; try (with_reducible rfl)
                case rest4003 =>
                try simp only [Act.put, List.setIfInBounds_toArray, List.set_cons_zero, List.set_cons_succ]
                refine wpAnyH_take (i := 3) (v := ?v4004) (at_list rfl) (by kernel_rfl) (by kernel_rfl) (by kernel_rfl) (fun _ _ _ h => h) (Or.inl ⟨by rfl, ?hy4004⟩) (by assumption) ?rest4004
                case hy4004 => intro w hSw; (try dsimp only at hSw); go_simp; try (with_reducible rfl)
                case rest4004 =>
                try simp only [Act.put, List.setIfInBounds_toArray, List.set_cons_zero, List.set_cons_succ]
                refine wpAnyH_take (i := 4) (v := undef) (at_list rfl) (by kernel_rfl) (by kernel_rfl) (by kernel_rfl) (fun _ _ _ h => h) (Or.inr ⟨by rfl, rfl⟩) (by assumption) ?rest4005
                case rest4005 =>
                try simp only [Act.put, List.setIfInBounds_toArray, List.set_cons_zero, List.set_cons_succ]
                refine wpAnyH_take (i := 5) (v := undef) (at_list rfl) (by kernel_rfl) (by kernel_rfl) (by kernel_rfl) (fun _ _ _ h => h) (Or.inr ⟨by rfl, rfl⟩) (by assumption) ?rest4006
                case rest4006 =>
                try simp only [Act.put, List.setIfInBounds_toArray, List.set_cons_zero, List.set_cons_succ]
                refine wpAnyH_take (i := 6) (v := ?v4007) (at_list rfl) (by kernel_rfl) (by kernel_rfl) (by kernel_rfl) (fun _ _ _ h => h) (Or.inl ⟨by rfl, ?hy4007⟩) (by assumption) ?rest4007
                case hy4007 => intro w hSw; (try dsimp only at hSw); go_simp; try (with_reducible rfl)
                case rest4007 =>
                try simp only [Act.put, List.setIfInBounds_toArray, List.set_cons_zero, List.set_cons_succ]
                refine wpAnyH_take (i := 7) (v := ?v4008) (at_list rfl) (by kernel_rfl) (by kernel_rfl) (by kernel_rfl) (fun _ _ _ h => h) (Or.inl ⟨by rfl, ?hy4008⟩) (by assumption) ?rest4008
                case hy4008 => intro w hSw; (try dsimp only at hSw); go_simp; try (with_reducible rfl)
                case rest4008 =>
                try simp only [Act.put, List.setIfInBounds_toArray, List.set_cons_zero, List.set_cons_succ]
                refine wpAnyH_take (i := 8) (v := ?v4009) (at_list rfl) (by kernel_rfl) (by kernel_rfl) (by kernel_rfl) (fun _ _ _ h => h) (Or.inl ⟨by rfl, ?hy4009⟩) (by assumption) ?rest4009
                case hy4009 => intro w hSw; (try dsimp only at hSw); go_simp; try (with_reducible rfl)
                case rest4009 =>
                try simp only [Act.put, List.setIfInBounds_toArray, List.set_cons_zero, List.set_cons_succ]
                refine wpAnyH_take (i := 9) (v := ?v4010) (at_list rfl) (by kernel_rfl) (by kernel_rfl) (by kernel_rfl) (fun _ _ _ h => h) (Or.inl ⟨by rfl, ?hy4010⟩) (by assumption) ?rest4010
                case hy4010 => intro w hSw; (try dsimp only at hSw); go_simp; try (with_reducible rfl)
                case rest4010 =>
                try simp only [Act.put, List.setIfInBounds_toArray, List.set_cons_zero, List.set_cons_succ]
                refine wpAnyH_take (i := 10) (v := ?v4011) (at_list rfl) (by kernel_rfl) (by kernel_rfl) (by kernel_rfl) (fun _ _ _ h => h) (Or.inl ⟨by rfl, ?hy4011⟩) (by assumption) ?rest4011
                case hy4011 => intro w hSw; (try dsimp only at hSw); go_simp; try (with_reducible rfl)
                case rest4011 =>
                try simp only [Act.put, List.setIfInBounds_toArray, List.set_cons_zero, List.set_cons_succ]
                refine wpAnyH_take (i := 11) (v := ?v4012) (at_list rfl) (by kernel_rfl) (by kernel_rfl) (by kernel_rfl) (fun _ _ _ h => h) (Or.inl ⟨by rfl, ?hy4012⟩) (by assumption) ?rest4012
                case hy4012 => intro w hSw; (try dsimp only at hSw); go_simp; try (with_reducible rfl)
                case rest4012 =>
                try simp only [Act.put, List.setIfInBounds_toArray, List.set_cons_zero, List.set_cons_succ]
                refine wpAnyH_ready (rs := [12]) (by kernel_rfl) (by simp) ?_
                refine AllReadyH.cons (at_list rfl) (fun K hK => ?_) AllReadyH.nil
                go_simp
                go_at_call 6; refine (HGX.out _).mono ?_; rintro e w49 ⟨rfl, bw49⟩; have hBw49 : Bx (Below w28.heap.size w28 w49) := bx_to (by (first | with_reducible assumption | with_reducible exact bx_alloc (by with_reducible assumption) _ | with_reducible exact bx_drew (by with_reducible assumption) | with_reducible exact bx_drew (bx_alloc (by with_reducible assumption) _))) bw49; have hzw49 := bx_size hBw49; have kgx0_w49 := ((bcell hBw49.out).1 _ _ lt_gx).trans kgx0; have kgx1_w49 := ((bcell hBw49.out).1 _ _ lt_gx).trans kgx1; have kge0_w49 := ((bcell hBw49.out).1 _ _ lt_ge).trans kge0; have kge1_w49 := ((bcell hBw49.out).1 _ _ lt_ge).trans kge1
                refine hK.out _ _ ?hS4013 (fun hHeld => ?rest4013)
                case hS4013 => (try dsimp only); (refine (fun (hK : Bx (Below w28.heap.size w28 _)) => ⟨((bcell hK.out).1 _ _ lt_gx).trans kgx0, ((bcell hK.out).1 _ _ lt_gx).trans kgx1, ((bcell hK.out).1 _ _ lt_ge).trans kge0, ((bcell hK.out).1 _ _ lt_ge).trans kge1, hK⟩) ?_; (first | with_reducible assumption | with_reducible exact bx_alloc (by with_reducible assumption) _ | with_reducible exact bx_drew (by with_reducible assumption) | with_reducible exact bx_drew (bx_alloc (by with_reducible assumption) _)))
                case rest4013 =>
                clear hK K
                try simp only [Act.put, List.setIfInBounds_toArray, List.set_cons_zero, List.set_cons_succ]
                refine wpAnyH_take (i := 13) (v := ?v4014) (at_list rfl) (by kernel_rfl) (by kernel_rfl) (by kernel_rfl) (fun _ _ _ h => h) (Or.inl ⟨by rfl, ?hy4014⟩) (by assumption) ?rest4014
                case hy4014 => intro w hSw; (try dsimp only at hSw); go_simp; try (with_reducible rfl)
                case rest4014 =>
                try simp only [Act.put, List.setIfInBounds_toArray, List.set_cons_zero, List.set_cons_succ]
                refine wpAnyH_take (i := 14) (v := ?v4015) (at_list rfl) (by kernel_rfl) (by kernel_rfl) (by kernel_rfl) (fun _ _ _ h => h) (Or.inl ⟨by rfl, ?hy4015⟩) (by assumption) ?rest4015
                case hy4015 => intro w hSw; (try dsimp only at hSw); go_simp; try (with_reducible rfl)
                case rest4015 =>
                try simp only [Act.put, List.setIfInBounds_toArray, List.set_cons_zero, List.set_cons_succ]
                refine wpAnyH_take (i := 15) (v := undef) (at_list rfl) (by kernel_rfl) (by kernel_rfl) (by kernel_rfl) (fun _ _ _ h => h) (Or.inr ⟨by rfl, rfl⟩) (by assumption) ?rest4016
                case rest4016 =>
                try simp only [Act.put, List.setIfInBounds_toArray, List.set_cons_zero, List.set_cons_succ]
                refine wpAnyH_take (i := 16) (v := undef) (at_list rfl) (by kernel_rfl) (by kernel_rfl) (by kernel_rfl) (fun _ _ _ h => h) (Or.inr ⟨by rfl, rfl⟩) (by assumption) ?rest4017
                case rest4017 =>
                try simp only [Act.put, List.setIfInBounds_toArray, List.set_cons_zero, List.set_cons_succ]
                refine wpAnyH_take (i := 17) (v := ?v4018) (at_list rfl) (by kernel_rfl) (by kernel_rfl) (by kernel_rfl) (fun _ _ _ h => h) (Or.inl ⟨by rfl, ?hy4018⟩) (by assumption) ?rest4018
                case hy4018 => intro w hSw; (try dsimp only at hSw); go_simp; try (with_reducible rfl)
                case rest4018 =>
                try simp only [Act.put, List.setIfInBounds_toArray, List.set_cons_zero, List.set_cons_succ]
                refine wpAnyH_take (i := 18) (v := ?v4019) (at_list rfl) (by kernel_rfl) (by kernel_rfl) (by kernel_rfl) (fun _ _ _ h => h) (Or.inl ⟨by rfl, ?hy4019⟩) (by assumption) ?rest4019
                case hy4019 => intro w hSw; (try dsimp only at hSw); go_simp; try (with_reducible rfl)
                case rest4019 =>
                try simp only [Act.put, List.setIfInBounds_toArray, List.set_cons_zero, List.set_cons_succ]
                refine wpAnyH_take (i := 19) (v := ?v4020) (at_list rfl) (by kernel_rfl) (by kernel_rfl) (by kernel_rfl) (fun _ _ _ h => h) (Or.inl ⟨by rfl, ?hy4020⟩) (by assumption) ?rest4020
                case hy4020 => intro w hSw; (try dsimp only at hSw); go_simp; try (with_reducible rfl)
                case rest4020 =>
                try simp only [Act.put, List.setIfInBounds_toArray, List.set_cons_zero, List.set_cons_succ]
                refine wpAnyH_ready (rs := [20]) (by kernel_rfl) (by simp) ?_
                refine AllReadyH.cons (at_list rfl) (fun K hK => ?_) AllReadyH.nil
                go_simp
                refine hK.out _ _ ?hS4021 (fun hHeld => ?rest4021)
                case hS4021 => (try dsimp only); (refine (fun (hK : Bx (Below w28.heap.size w28 _)) => ⟨((bcell hK.out).1 _ _ lt_gx).trans kgx0, ((bcell hK.out).1 _ _ lt_gx).trans kgx1, ((bcell hK.out).1 _ _ lt_ge).trans kge0, ((bcell hK.out).1 _ _ lt_ge).trans kge1, hK⟩) ?_; (first | with_reducible assumption | with_reducible exact bx_alloc (by with_reducible assumption) _ | with_reducible exact bx_drew (by with_reducible assumption) | with_reducible exact bx_drew (bx_alloc (by with_reducible assumption) _)))
                case rest4021 =>
                clear hK K
                try simp only [Act.put, List.setIfInBounds_toArray, List.set_cons_zero, List.set_cons_succ]
                refine wpAnyH_take (i := 21) (v := ?v4022) (at_list rfl) (by kernel_rfl) (by kernel_rfl) (by kernel_rfl) (fun _ _ _ h => h) (Or.inl ⟨by rfl, ?hy4022⟩) (by assumption) ?rest4022
                case hy4022 => intro w hSw; (try dsimp only at hSw); go_simp; try (with_reducible rfl)
                case rest4022 =>
                try simp only [Act.put, List.setIfInBounds_toArray, List.set_cons_zero, List.set_cons_succ]
                refine wpAnyH_ready (rs := [22]) (by kernel_rfl) (by simp) ?_
                refine AllReadyH.cons (at_list rfl) (fun K hK => ?_) AllReadyH.nil
                go_simp
                go_at_call 21; refine (HTL.out _ _ _ (by exact gw_lit _)).mono ?_; rintro e w50 ⟨rfl, bw50⟩; have hBw50 : Bx (Below w28.heap.size w28 w50) := bx_to (by (first | with_reducible assumption | with_reducible exact bx_alloc (by with_reducible assumption) _ | with_reducible exact bx_drew (by with_reducible assumption) | with_reducible exact bx_drew (bx_alloc (by with_reducible assumption) _))) bw50; have hzw50 := bx_size hBw50; have kgx0_w50 := ((bcell hBw50.out).1 _ _ lt_gx).trans kgx0; have kgx1_w50 := ((bcell hBw50.out).1 _ _ lt_gx).trans kgx1; have kge0_w50 := ((bcell hBw50.out).1 _ _ lt_ge).trans kge0; have kge1_w50 := ((bcell hBw50.out).1 _ _ lt_ge).trans kge1
                refine hK.out _ _ ?hS4023 (fun hHeld => ?rest4023)
                case hS4023 => (try dsimp only); (refine (fun (hK : Bx (Below w28.heap.size w28 _)) => ⟨((bcell hK.out).1 _ _ lt_gx).trans kgx0, ((bcell hK.out).1 _ _ lt_gx).trans kgx1, ((bcell hK.out).1 _ _ lt_ge).trans kge0, ((bcell hK.out).1 _ _ lt_ge).trans kge1, hK⟩) ?_; (first | with_reducible assumption | with_reducible exact bx_alloc (by with_reducible assumption) _ | with_reducible exact bx_drew (by with_reducible assumption) | with_reducible exact bx_drew (bx_alloc (by with_reducible assumption) _)))
                case rest4023 =>
                clear hK K
                try simp only [Act.put, List.setIfInBounds_toArray, List.set_cons_zero, List.set_cons_succ]
                refine wpAnyH_take (i := 23) (v := ?v4024) (at_list rfl) (by kernel_rfl) (by kernel_rfl) (by kernel_rfl) (fun _ _ _ h => h) (Or.inl ⟨by rfl, ?hy4024⟩) (by assumption) ?rest4024
                case hy4024 => intro w hSw; (try dsimp only at hSw); go_simp; try (with_reducible rfl)
                case rest4024 =>
                try simp only [Act.put, List.setIfInBounds_toArray, List.set_cons_zero, List.set_cons_succ]
                refine wpAnyH_take (i := 24) (v := ?v4025) (at_list rfl) (by kernel_rfl) (by kernel_rfl) (by kernel_rfl) (fun _ _ _ h => h) (Or.inl ⟨by rfl, ?hy4025⟩) (by assumption) ?rest4025
                case hy4025 => intro w hSw; (try dsimp only at hSw); go_simp; try (with_reducible rfl)
                case rest4025 =>
                try simp only [Act.put, List.setIfInBounds_toArray, List.set_cons_zero, List.set_cons_succ]
                refine wpAnyH_take (i := 25) (v := ?v4026) (at_list rfl) (by kernel_rfl) (by kernel_rfl) (by kernel_rfl) (fun _ _ _ h => h) (Or.inl ⟨by rfl, ?hy4026⟩) (by assumption) ?rest4026
                case hy4026 => intro w hSw; (try dsimp only at hSw); go_simp; try (with_reducible rfl)
                case rest4026 =>
                try simp only [Act.put, List.setIfInBounds_toArray, List.set_cons_zero, List.set_cons_succ]
                refine wpAnyH_take (i := 27) (v := ?v4027) (at_list rfl) (by kernel_rfl) (by kernel_rfl) (by kernel_rfl) (fun _ _ _ h => h) (Or.inl ⟨by rfl, ?hy4027⟩) (by assumption) ?rest4027
                case hy4027 => intro w hSw; (try dsimp only at hSw); go_simp; try (with_reducible rfl)
                case rest4027 =>
                try simp only [Act.put, List.setIfInBounds_toArray, List.set_cons_zero, List.set_cons_succ]
                refine wpAnyH_ready (rs := [26]) (by kernel_rfl) (by simp) ?_
                refine AllReadyH.cons (at_list rfl) (fun K hK => ?_) AllReadyH.nil
                go_simp
                go_at_call 14; refine (HCX.out _ _ _ (by exact HX.out.below (Bx.out (by (first | with_reducible assumption | with_reducible exact bx_alloc (by with_reducible assumption) _ | with_reducible exact bx_drew (by with_reducible assumption) | with_reducible exact bx_drew (bx_alloc (by with_reducible assumption) _)))))).mono ?_; rintro e w51 ⟨rfl, bw51⟩; have hBw51 : Bx (Below w28.heap.size w28 w51) := bx_to (by (first | with_reducible assumption | with_reducible exact bx_alloc (by with_reducible assumption) _ | with_reducible exact bx_drew (by with_reducible assumption) | with_reducible exact bx_drew (bx_alloc (by with_reducible assumption) _))) bw51; have hzw51 := bx_size hBw51; have kgx0_w51 := ((bcell hBw51.out).1 _ _ lt_gx).trans kgx0; have kgx1_w51 := ((bcell hBw51.out).1 _ _ lt_gx).trans kgx1; have kge0_w51 := ((bcell hBw51.out).1 _ _ lt_ge).trans kge0; have kge1_w51 := ((bcell hBw51.out).1 _ _ lt_ge).trans kge1
                refine hK.out _ _ ?hS4028 (fun hHeld => ?rest4028)
                case hS4028 => (try dsimp only); (refine (fun (hK : Bx (Below w28.heap.size w28 _)) => ⟨((bcell hK.out).1 _ _ lt_gx).trans kgx0, ((bcell hK.out).1 _ _ lt_gx).trans kgx1, ((bcell hK.out).1 _ _ lt_ge).trans kge0, ((bcell hK.out).1 _ _ lt_ge).trans kge1, hK⟩) ?_; (first | with_reducible assumption | with_reducible exact bx_alloc (by with_reducible assumption) _ | with_reducible exact bx_drew (by with_reducible assumption) | with_reducible exact bx_drew (bx_alloc (by with_reducible assumption) _)))
                case rest4028 =>
                clear hK K
                try simp only [Act.put, List.setIfInBounds_toArray, List.set_cons_zero, List.set_cons_succ]
                refine wpAnyH_ready (rs := [28]) (by kernel_rfl) (by simp) ?_
                refine AllReadyH.cons (at_list rfl) (fun K hK => ?_) AllReadyH.nil
                go_simp
                go_at_call 22; refine (HSX.out _ _ _ (by exact HX.out.below (Bx.out (by (first | with_reducible assumption | with_reducible exact bx_alloc (by with_reducible assumption) _ | with_reducible exact bx_drew (by with_reducible assumption) | with_reducible exact bx_drew (bx_alloc (by with_reducible assumption) _)))))).mono ?_; rintro e w52 ⟨Bw52, dw52, rfl, bw52⟩; have hBw52 : Bx (Below w28.heap.size w28 w52) := bx_to (by (first | with_reducible assumption | with_reducible exact bx_alloc (by with_reducible assumption) _ | with_reducible exact bx_drew (by with_reducible assumption) | with_reducible exact bx_drew (bx_alloc (by with_reducible assumption) _))) bw52; have hzw52 := bx_size hBw52; have kgx0_w52 := ((bcell hBw52.out).1 _ _ lt_gx).trans kgx0; have kgx1_w52 := ((bcell hBw52.out).1 _ _ lt_gx).trans kgx1; have kge0_w52 := ((bcell hBw52.out).1 _ _ lt_ge).trans kge0; have kge1_w52 := ((bcell hBw52.out).1 _ _ lt_ge).trans kge1
                refine hK.out _ _ ?hS4029 (fun hHeld => ?rest4029)
                case hS4029 => (try dsimp only); (refine (fun (hK : Bx (Below w28.heap.size w28 _)) => ⟨((bcell hK.out).1 _ _ lt_gx).trans kgx0, ((bcell hK.out).1 _ _ lt_gx).trans kgx1, ((bcell hK.out).1 _ _ lt_ge).trans kge0, ((bcell hK.out).1 _ _ lt_ge).trans kge1, hK⟩) ?_; (first | with_reducible assumption | with_reducible exact bx_alloc (by with_reducible assumption) _ | with_reducible exact bx_drew (by with_reducible assumption) | with_reducible exact bx_drew (bx_alloc (by with_reducible assumption) _)))
                case rest4029 =>
                clear hK K
                try simp only [Act.put, List.setIfInBounds_toArray, List.set_cons_zero, List.set_cons_succ]
                refine wpAnyH_take (i := 29) (v := ?v4030) (at_list rfl) (by kernel_rfl) (by kernel_rfl) (by kernel_rfl) (fun _ _ _ h => h) (Or.inl ⟨by rfl, ?hy4030⟩) (by assumption) ?rest4030
                case hy4030 => intro w hSw; (try dsimp only at hSw); go_simp; try (with_reducible rfl)
                case rest4030 =>
                try simp only [Act.put, List.setIfInBounds_toArray, List.set_cons_zero, List.set_cons_succ]
                refine wpAnyH_take (i := 30) (v := ?v4031) (at_list rfl) (by kernel_rfl) (by kernel_rfl) (by kernel_rfl) (fun _ _ _ h => h) (Or.inl ⟨by rfl, ?hy4031⟩) (by assumption) ?rest4031
                case hy4031 => intro w hSw; (try dsimp only at hSw); go_simp; try (with_reducible rfl)
                case rest4031 =>
                try simp only [Act.put, List.setIfInBounds_toArray, List.set_cons_zero, List.set_cons_succ]
                refine wpAnyH_take (i := 31) (v := ?v4032) (at_list rfl) (by kernel_rfl) (by kernel_rfl) (by kernel_rfl) (fun _ _ _ h => h) (Or.inl ⟨by rfl, ?hy4032⟩) (by assumption) ?rest4032
                case hy4032 => intro w hSw; (try dsimp only at hSw); go_simp; try (with_reducible rfl)
                case rest4032 =>
                try simp only [Act.put, List.setIfInBounds_toArray, List.set_cons_zero, List.set_cons_succ]
                refine wpAnyH_ready (rs := [32]) (by kernel_rfl) (by simp) ?_
                refine AllReadyH.cons (at_list rfl) (fun K hK => ?_) AllReadyH.nil
                go_simp
                refine hK.out _ _ ?hS4033 (fun hHeld => ?rest4033)
                case hS4033 => (try dsimp only); (refine (fun (hK : Bx (Below w28.heap.size w28 _)) => ⟨((bcell hK.out).1 _ _ lt_gx).trans kgx0, ((bcell hK.out).1 _ _ lt_gx).trans kgx1, ((bcell hK.out).1 _ _ lt_ge).trans kge0, ((bcell hK.out).1 _ _ lt_ge).trans kge1, hK⟩) ?_; (first | with_reducible assumption | with_reducible exact bx_alloc (by with_reducible assumption) _ | with_reducible exact bx_drew (by with_reducible assumption) | with_reducible exact bx_drew (bx_alloc (by with_reducible assumption) _)))
                case rest4033 =>
                clear hK K
                try simp only [Act.put, List.setIfInBounds_toArray, List.set_cons_zero, List.set_cons_succ]
                refine wpAnyH_done (by kernel_rfl) ?_ _
                have b := hBw52.out
                replace kgx0 := ((bcell b).1 _ _ lt_gx).trans kgx0
                replace kgx1 := ((bcell b).1 _ _ lt_gx).trans kgx1
                replace kge0 := ((bcell b).1 _ _ lt_ge).trans kge0
                replace kge1 := ((bcell b).1 _ _ lt_ge).trans kge1
                replace lt_gx := Nat.lt_of_lt_of_le lt_gx b.size
                replace lt_ge := Nat.lt_of_lt_of_le lt_ge b.size
                replace HX := Bx.mk (HX.out.below b)
                replace HE := Bx.mk (HE.out.below b)
                replace bw := bw.trans (b.mono bw.size)
                clear b
                go_wp2_with fail
                go_ret
                exact ⟨rfl, bw⟩
  · have hMni : ¬ (M : Int) ≤ (n : Int) := by omega
    have HGR : Bx (∀ W, Calls Try.prog 5 #[.int .i64 n, .int .i64 k, .int .i64 d] W fun e w' => ∃ A c, e = .returned (.tuple #[.agg #[.int .i64 0, .slice A 0 c], .bool false]) ∧ Below W.heap.size W w') := ⟨fun W => gw_no h2 h17 hkn hd1 hdn (by rw [← HGE.out, ← HME.out]; exact hMn) W⟩
    refine (HGR.out _).mono ?_
    rintro e w53 ⟨AL, cL, rfl, b⟩
    replace HB := Bx.mk (HB.out.below b)
    replace bw := bw.trans (b.mono bw.size)
    clear b
    obtain ⟨w54, hW⟩ : ∃ w54, w54 = w53.alloc (.cells #[.int .i64 0, .slice AL 0 cL] 26) := ⟨_, rfl⟩
    obtain ⟨gr, hg⟩ : ∃ gr, gr = w53.heap.size := ⟨_, rfl⟩
    have b : Below w53.heap.size w53 w54 := by rw [hW]; exact below_alloc _ _
    have kgr0 : w54.cell? ⟨gr, 0, none⟩ = some (.int .i64 0) := by rw [hW, hg]; simp [go_sem]
    have kgr1 : w54.cell? ⟨gr, 1, none⟩ = some (.slice AL 0 cL) := by rw [hW, hg]; simp [go_sem]
    have lt_gr : gr < w54.heap.size := by rw [hW, hg]; simp
    replace HB := Bx.mk (HB.out.below b)
    replace bw := bw.trans (b.mono bw.size)
    clear b
    go_upto_region 7 with (fail)
    rw [← hW, ← hg]
    clear hW hg
    go_wp2_with fail
    refine (HGC.out _).mono ?_
    rintro e w' ⟨rfl, rfl⟩
    go_wp2_with fail
    refine (makeOf_any _ _ _ 10 n _ (by omega) (by omega) (by omega) (by exact HB.out)).mono ?_
    rintro e w55 ⟨x, hxok, Ax, cx, rfl, io, b⟩
    replace kgr0 := ((bcell b).1 _ _ lt_gr).trans kgr0
    replace kgr1 := ((bcell b).1 _ _ lt_gr).trans kgr1
    replace lt_gr := Nat.lt_of_lt_of_le lt_gr b.size
    replace HB := Bx.mk (HB.out.below b)
    replace bw := bw.trans (b.mono bw.size)
    clear b
    have HXOK := Bx.mk hxok
    clear hxok
    have HX := Bx.mk io.reads
    clear io
    obtain ⟨w56, hW⟩ : ∃ w56, w56 = w55.alloc (.cells #[.int .i64 n, .slice Ax x.length cx] 26) := ⟨_, rfl⟩
    obtain ⟨gx, hg⟩ : ∃ gx, gx = w55.heap.size := ⟨_, rfl⟩
    have b : Below w55.heap.size w55 w56 := by rw [hW]; exact below_alloc _ _
    have kgx0 : w56.cell? ⟨gx, 0, none⟩ = some (.int .i64 n) := by rw [hW, hg]; simp [go_sem]
    have kgx1 : w56.cell? ⟨gx, 1, none⟩ = some (.slice Ax x.length cx) := by rw [hW, hg]; simp [go_sem]
    have lt_gx : gx < w56.heap.size := by rw [hW, hg]; simp
    replace kgr0 := ((bcell b).1 _ _ lt_gr).trans kgr0
    replace kgr1 := ((bcell b).1 _ _ lt_gr).trans kgr1
    replace lt_gr := Nat.lt_of_lt_of_le lt_gr b.size
    replace HX := Bx.mk (HX.out.below b)
    replace HB := Bx.mk (HB.out.below b)
    replace bw := bw.trans (b.mono bw.size)
    clear b
    go_upto_region 10 with (fail)
    rw [← hW, ← hg]
    clear hW hg
    go_wp2_with fail
    have hxl := (rhOk_len HXOK.out)
    obtain ⟨hxl1, hxl2⟩ := hxl
    obtain ⟨E, hE⟩ : ∃ E, E = evL n x.length x.length := ⟨_, rfl⟩
    have HEV : Bx (∀ W, Calls Try.prog 20 #[.int .i64 x.length, .int .i64 n] W (GivesRB W n E true)) := ⟨fun W => by rw [hE]; exact gw_even h2 h17 (by omega) W⟩
    obtain ⟨gx2, hgx2⟩ : ∃ gx2 : Nat, gx2 = Nat.gcd x.length n := ⟨_, rfl⟩
    have HEI : Bx (gx2 = 1 → isGen n E = true) := ⟨fun h => by rw [hE]; exact ev_gen h2 h17 (by omega) (by rw [← hgx2]; exact h)⟩
    have HGX : Bx (∀ W, Calls Try.prog 6 #[.int .i64 x.length, .int .i64 n] W fun e w' => e = .returned (.int .i64 (gx2 : Int)) ∧ Below W.heap.size W w') := ⟨fun W => (gw_gcd x.length n (by omega) (by omega) W).mono fun _ _ h => ⟨by rw [hgx2]; exact h.1, by rw [← h.2]; exact Below.refl _ _⟩⟩
    clear hE hgx2
    refine (HEV.out _).mono ?_
    rintro e w57 ⟨AE, cE, rfl, io, b⟩
    replace kgr0 := ((bcell b).1 _ _ lt_gr).trans kgr0
    replace kgr1 := ((bcell b).1 _ _ lt_gr).trans kgr1
    replace kgx0 := ((bcell b).1 _ _ lt_gx).trans kgx0
    replace kgx1 := ((bcell b).1 _ _ lt_gx).trans kgx1
    replace lt_gr := Nat.lt_of_lt_of_le lt_gr b.size
    replace lt_gx := Nat.lt_of_lt_of_le lt_gx b.size
    replace HX := Bx.mk (HX.out.below b)
    replace HB := Bx.mk (HB.out.below b)
    replace bw := bw.trans (b.mono bw.size)
    clear b
    have HE := Bx.mk io.reads
    clear io
    obtain ⟨w58, hW⟩ : ∃ w58, w58 = w57.alloc (.cells #[.int .i64 n, .slice AE E.length cE] 26) := ⟨_, rfl⟩
    obtain ⟨ge, hg⟩ : ∃ ge, ge = w57.heap.size := ⟨_, rfl⟩
    have b : Below w57.heap.size w57 w58 := by rw [hW]; exact below_alloc _ _
    have kge0 : w58.cell? ⟨ge, 0, none⟩ = some (.int .i64 n) := by rw [hW, hg]; simp [go_sem]
    have kge1 : w58.cell? ⟨ge, 1, none⟩ = some (.slice AE E.length cE) := by rw [hW, hg]; simp [go_sem]
    have lt_ge : ge < w58.heap.size := by rw [hW, hg]; simp
    replace kgr0 := ((bcell b).1 _ _ lt_gr).trans kgr0
    replace kgr1 := ((bcell b).1 _ _ lt_gr).trans kgr1
    replace kgx0 := ((bcell b).1 _ _ lt_gx).trans kgx0
    replace kgx1 := ((bcell b).1 _ _ lt_gx).trans kgx1
    replace lt_gr := Nat.lt_of_lt_of_le lt_gr b.size
    replace lt_gx := Nat.lt_of_lt_of_le lt_gx b.size
    replace HX := Bx.mk (HX.out.below b)
    replace HE := Bx.mk (HE.out.below b)
    replace HB := Bx.mk (HB.out.below b)
    replace bw := bw.trans (b.mono bw.size)
    clear b
    go_upto_region 27 with (fail)
    rw [← hW, ← hg]
    clear hW hg
    obtain ⟨two, htwo⟩ : ∃ two, two = twoB n x := ⟨_, rfl⟩
    obtain ⟨S2, hS2⟩ : ∃ S2, S2 = sizesR n x := ⟨_, rfl⟩
    have HTI : Bx (two = true → isGen n x = true) := ⟨fun h => two_gen (by omega) h17 (by rw [← htwo]; exact h)⟩
    have hS2l : S2.length ≤ 24 := by rw [hS2]; exact sizesR_len _ _
    have hSS : (((S2.length : Nat) : Int) == ((S2.length : Nat) : Int)) = true := by simp
    have HTX : Bx (∀ A c W, IR W A x → Calls Try.prog 21 #[.agg #[.int .i64 n, .slice A x.length c]] W fun e w' => e = .returned (.bool two) ∧ Below W.heap.size W w') := ⟨fun A c W h => by rw [htwo]; exact implTwo_any n A c x W ⟨by omega, by omega⟩ h⟩
    have HTL : Bx (∀ A c W, IR W A dia → Calls Try.prog 21 #[.agg #[.int .i64 12, .slice A 7 c]] W fun e w' => e = .returned (.bool true) ∧ Below W.heap.size W w') := ⟨fun A c W h => by have := implTwo_any 12 A c dia W ⟨by omega, by omega⟩ h; rw [dia_two] at this; exact this⟩
    have HCX : Bx (∀ A c W, IR W A x → Calls Try.prog 14 #[.agg #[.int .i64 n, .slice A x.length c]] W fun e w' => e = .returned (.int .i64 (S2.length : Int)) ∧ Below W.heap.size W w') := ⟨fun A c W h => by rw [hS2]; exact implCountSizes_any n A c x W ⟨by omega, by omega⟩ h⟩
    have HSX : Bx (∀ A c W, IR W A x → Calls Try.prog 22 #[.agg #[.int .i64 n, .slice A x.length c]] W fun e w' => ∃ B d, e = .returned (.slice B S2.length d) ∧ Below W.heap.size W w') := ⟨fun A c W h => by rw [hS2]; exact (implStepSizes_any n A c x W ⟨by omega, by omega⟩ h).mono fun _ _ ⟨B, d, e1, _, b⟩ => ⟨B, d, e1, b⟩⟩
    clear htwo hS2
    cases two with
    | true =>
      have hix := HTI.out rfl
      have HIX : Bx (∀ A c W, IR W A x → Calls Try.prog 13 #[.agg #[.int .i64 n, .slice A x.length c]] W fun e w' => e = .returned (.bool true) ∧ Below W.heap.size W w') := ⟨fun A c W h => by have := implIsGen_any n A c x W ⟨by omega, by omega⟩ h; rw [hix] at this; exact this⟩
      clear hix
      clear HTI
      by_cases hg1 : gx2 = 1
      · skip
        have hgb : ((gx2 : Int) != 1) = false := by rw [bne_eq_false_iff_eq]; omega
        have hie := HEI.out hg1
        have HIE : Bx (∀ A c W, IR W A E → Calls Try.prog 13 #[.agg #[.int .i64 n, .slice A E.length c]] W fun e w' => e = .returned (.bool true) ∧ Below W.heap.size W w') := ⟨fun A c W h => by have := implIsGen_any n A c E W ⟨by omega, by omega⟩ h; rw [hie] at this; exact this⟩
        clear hie
        clear HEI hg1
        have hB : Bx (Below w58.heap.size w58 w58.drew) := ⟨(Below.refl _ _).drew⟩
        have hB0 : Bx (Below w58.heap.size w58 w58) := ⟨Below.refl _ _⟩
        have kgx0_d : w58.drew.cell? _ = _ := kgx0
        have kgx1_d : w58.drew.cell? _ = _ := kgx1
        have kge0_d : w58.drew.cell? _ = _ := kge0
        have kge1_d : w58.drew.cell? _ = _ := kge1
        refine wp_region_held_drew (S := fun w' => w'.cell? ⟨gx, 0, none⟩ = some (.int .i64 n) ∧ w'.cell? ⟨gx, 1, none⟩ = some (.slice Ax x.length cx) ∧ w'.cell? ⟨ge, 0, none⟩ = some (.int .i64 n) ∧ w'.cell? ⟨ge, 1, none⟩ = some (.slice AE E.length cE) ∧ Bx (Below w58.heap.size w58 w')) (by kernel_rfl) ?hS5000 (fun hHeld => ?rest5000)
        case hS5000 => (try dsimp only); (refine (fun (hK : Bx (Below w58.heap.size w58 _)) => ⟨((bcell hK.out).1 _ _ lt_gx).trans kgx0, ((bcell hK.out).1 _ _ lt_gx).trans kgx1, ((bcell hK.out).1 _ _ lt_ge).trans kge0, ((bcell hK.out).1 _ _ lt_ge).trans kge1, hK⟩) ?_; (first | with_reducible assumption | with_reducible exact bx_alloc (by with_reducible assumption) _ | with_reducible exact bx_drew (by with_reducible assumption) | with_reducible exact bx_drew (bx_alloc (by with_reducible assumption) _)))
        case rest5000 =>
        refine wpAnyH_take (i := 0) (v := ?v5001) (at_list rfl) (by kernel_rfl) (by kernel_rfl) (by kernel_rfl) (fun _ _ _ h => h) (Or.inl ⟨by rfl, ?hy5001⟩) (by assumption) ?rest5001
        case hy5001 => intro w hSw; (try dsimp only at hSw); go_simp; try (with_reducible rfl)
        case rest5001 =>
        try simp only [Act.put, List.setIfInBounds_toArray, List.set_cons_zero, List.set_cons_succ]
        refine wpAnyH_ready (rs := [1]) (by kernel_rfl) (by simp) ?_
        refine AllReadyH.cons (at_list rfl) (fun K hK => ?_) AllReadyH.nil
        go_simp
        go_at_call 21; refine (HTX.out _ _ _ (by exact HX.out.below (Bx.out (by (first | with_reducible assumption | with_reducible exact bx_alloc (by with_reducible assumption) _ | with_reducible exact bx_drew (by with_reducible assumption) | with_reducible exact bx_drew (bx_alloc (by with_reducible assumption) _)))))).mono ?_; rintro e w59 ⟨rfl, bw59⟩; have hBw59 : Bx (Below w58.heap.size w58 w59) := bx_to (by (first | with_reducible assumption | with_reducible exact bx_alloc (by with_reducible assumption) _ | with_reducible exact bx_drew (by with_reducible assumption) | with_reducible exact bx_drew (bx_alloc (by with_reducible assumption) _))) bw59; have hzw59 := bx_size hBw59; have kgx0_w59 := ((bcell hBw59.out).1 _ _ lt_gx).trans kgx0; have kgx1_w59 := ((bcell hBw59.out).1 _ _ lt_gx).trans kgx1; have kge0_w59 := ((bcell hBw59.out).1 _ _ lt_ge).trans kge0; have kge1_w59 := ((bcell hBw59.out).1 _ _ lt_ge).trans kge1
        refine hK.out _ _ ?hS5002 (fun hHeld => ?rest5002)
        case hS5002 => (try dsimp only); (refine (fun (hK : Bx (Below w58.heap.size w58 _)) => ⟨((bcell hK.out).1 _ _ lt_gx).trans kgx0, ((bcell hK.out).1 _ _ lt_gx).trans kgx1, ((bcell hK.out).1 _ _ lt_ge).trans kge0, ((bcell hK.out).1 _ _ lt_ge).trans kge1, hK⟩) ?_; (first | with_reducible assumption | with_reducible exact bx_alloc (by with_reducible assumption) _ | with_reducible exact bx_drew (by with_reducible assumption) | with_reducible exact bx_drew (bx_alloc (by with_reducible assumption) _)))
        case rest5002 =>
        clear hK K
        try simp only [Act.put, List.setIfInBounds_toArray, List.set_cons_zero, List.set_cons_succ]
        refine wpAnyH_take (i := 2) (v := ?v5003) (at_list rfl) (by kernel_rfl) (by kernel_rfl) (by kernel_rfl) (fun _ _ _ h => h) (Or.inl ⟨by rfl, ?hy5003⟩) (by assumption) ?rest5003
        case hy5003 => intro w hSw; (try dsimp only at hSw); go_simp; try (with_reducible rfl)
        case rest5003 =>
        try simp only [Act.put, List.setIfInBounds_toArray, List.set_cons_zero, List.set_cons_succ]
        refine wpAnyH_take (i := 3) (v := ?v5004) (at_list rfl) (by kernel_rfl) (by kernel_rfl) (by kernel_rfl) (fun _ _ _ h => h) (Or.inl ⟨by rfl, ?hy5004⟩) (by assumption) ?rest5004
        case hy5004 => intro w hSw; (try dsimp only at hSw); go_simp; try (with_reducible rfl)
        case rest5004 =>
        try simp only [Act.put, List.setIfInBounds_toArray, List.set_cons_zero, List.set_cons_succ]
        refine wpAnyH_take (i := 4) (v := ?v5005) (at_list rfl) (by kernel_rfl) (by kernel_rfl) (by kernel_rfl) (fun _ _ _ h => h) (Or.inl ⟨by rfl, ?hy5005⟩) (by assumption) ?rest5005
        case hy5005 => intro w hSw; (try dsimp only at hSw); go_simp; try (with_reducible rfl)
        case rest5005 =>
        try simp only [Act.put, List.setIfInBounds_toArray, List.set_cons_zero, List.set_cons_succ]
        refine wpAnyH_ready (rs := [5]) (by kernel_rfl) (by simp) ?_
        refine AllReadyH.cons (at_list rfl) (fun K hK => ?_) AllReadyH.nil
        go_simp
        go_at_call 13; refine (HIX.out _ _ _ (by exact HX.out.below (Bx.out (by (first | with_reducible assumption | with_reducible exact bx_alloc (by with_reducible assumption) _ | with_reducible exact bx_drew (by with_reducible assumption) | with_reducible exact bx_drew (bx_alloc (by with_reducible assumption) _)))))).mono ?_; rintro e w60 ⟨rfl, bw60⟩; have hBw60 : Bx (Below w58.heap.size w58 w60) := bx_to (by (first | with_reducible assumption | with_reducible exact bx_alloc (by with_reducible assumption) _ | with_reducible exact bx_drew (by with_reducible assumption) | with_reducible exact bx_drew (bx_alloc (by with_reducible assumption) _))) bw60; have hzw60 := bx_size hBw60; have kgx0_w60 := ((bcell hBw60.out).1 _ _ lt_gx).trans kgx0; have kgx1_w60 := ((bcell hBw60.out).1 _ _ lt_gx).trans kgx1; have kge0_w60 := ((bcell hBw60.out).1 _ _ lt_ge).trans kge0; have kge1_w60 := ((bcell hBw60.out).1 _ _ lt_ge).trans kge1
        refine hK.out _ _ ?hS5006 (fun hHeld => ?rest5006)
        case hS5006 => (try dsimp only); (refine (fun (hK : Bx (Below w58.heap.size w58 _)) => ⟨((bcell hK.out).1 _ _ lt_gx).trans kgx0, ((bcell hK.out).1 _ _ lt_gx).trans kgx1, ((bcell hK.out).1 _ _ lt_ge).trans kge0, ((bcell hK.out).1 _ _ lt_ge).trans kge1, hK⟩) ?_; (first | with_reducible assumption | with_reducible exact bx_alloc (by with_reducible assumption) _ | with_reducible exact bx_drew (by with_reducible assumption) | with_reducible exact bx_drew (bx_alloc (by with_reducible assumption) _)))
        case rest5006 =>
        clear hK K
        try simp only [Act.put, List.setIfInBounds_toArray, List.set_cons_zero, List.set_cons_succ]
        refine wpAnyH_take (i := 6) (v := ?v5007) (at_list rfl) (by kernel_rfl) (by kernel_rfl) (by kernel_rfl) (fun _ _ _ h => h) (Or.inl ⟨by rfl, ?hy5007⟩) (by assumption) ?rest5007
        case hy5007 => intro w hSw; (try dsimp only at hSw); go_simp; try (with_reducible rfl)
        case rest5007 =>
        try simp only [Act.put, List.setIfInBounds_toArray, List.set_cons_zero, List.set_cons_succ]
        refine wpAnyH_take (i := 7) (v := ?v5008) (at_list rfl) (by kernel_rfl) (by kernel_rfl) (by kernel_rfl) (fun _ _ _ h => h) (Or.inl ⟨by rfl, ?hy5008⟩) (by assumption) ?rest5008
        case hy5008 => intro w hSw; (try dsimp only at hSw); go_simp; try (with_reducible rfl)
        case rest5008 =>
        try simp only [Act.put, List.setIfInBounds_toArray, List.set_cons_zero, List.set_cons_succ]
        refine wpAnyH_take (i := 8) (v := ?v5009) (at_list rfl) (by kernel_rfl) (by kernel_rfl) (by kernel_rfl) (fun _ _ _ h => h) (Or.inl ⟨by rfl, ?hy5009⟩) (by assumption) ?rest5009
        case hy5009 => intro w hSw; (try dsimp only at hSw); go_simp; try (with_reducible rfl)
        case rest5009 =>
        try simp only [Act.put, List.setIfInBounds_toArray, List.set_cons_zero, List.set_cons_succ]
        refine wpAnyH_take (i := 9) (v := ?v5010) (at_list rfl) (by kernel_rfl) (by kernel_rfl) (by kernel_rfl) (fun _ _ _ h => h) (Or.inl ⟨by rfl, ?hy5010⟩) (by assumption) ?rest5010
        case hy5010 => intro w hSw; (try dsimp only at hSw); go_simp; try (with_reducible rfl)
        case rest5010 =>
        try simp only [Act.put, List.setIfInBounds_toArray, List.set_cons_zero, List.set_cons_succ]
        refine wpAnyH_take (i := 10) (v := ?v5011) (at_list rfl) (by kernel_rfl) (by kernel_rfl) (by kernel_rfl) (fun _ _ _ h => h) (Or.inl ⟨by rfl, ?hy5011⟩) (by assumption) ?rest5011
        case hy5011 => intro w hSw; (try dsimp only at hSw); go_simp; try (with_reducible rfl)
        case rest5011 =>
        try simp only [Act.put, List.setIfInBounds_toArray, List.set_cons_zero, List.set_cons_succ]
        refine wpAnyH_take (i := 11) (v := ?v5012) (at_list rfl) (by kernel_rfl) (by kernel_rfl) (by kernel_rfl) (fun _ _ _ h => h) (Or.inl ⟨by rfl, ?hy5012⟩) (by assumption) ?rest5012
        case hy5012 => intro w hSw; (try dsimp only at hSw); go_simp; try (with_reducible rfl)
        case rest5012 =>
        try simp only [Act.put, List.setIfInBounds_toArray, List.set_cons_zero, List.set_cons_succ]
        refine wpAnyH_ready (rs := [12]) (by kernel_rfl) (by simp) ?_
        refine AllReadyH.cons (at_list rfl) (fun K hK => ?_) AllReadyH.nil
        go_simp
        go_at_call 6; refine (HGX.out _).mono ?_; rintro e w61 ⟨rfl, bw61⟩; have hBw61 : Bx (Below w58.heap.size w58 w61) := bx_to (by (first | with_reducible assumption | with_reducible exact bx_alloc (by with_reducible assumption) _ | with_reducible exact bx_drew (by with_reducible assumption) | with_reducible exact bx_drew (bx_alloc (by with_reducible assumption) _))) bw61; have hzw61 := bx_size hBw61; have kgx0_w61 := ((bcell hBw61.out).1 _ _ lt_gx).trans kgx0; have kgx1_w61 := ((bcell hBw61.out).1 _ _ lt_gx).trans kgx1; have kge0_w61 := ((bcell hBw61.out).1 _ _ lt_ge).trans kge0; have kge1_w61 := ((bcell hBw61.out).1 _ _ lt_ge).trans kge1
        refine hK.out _ _ ?hS5013 (fun hHeld => ?rest5013)
        case hS5013 => (try dsimp only); (refine (fun (hK : Bx (Below w58.heap.size w58 _)) => ⟨((bcell hK.out).1 _ _ lt_gx).trans kgx0, ((bcell hK.out).1 _ _ lt_gx).trans kgx1, ((bcell hK.out).1 _ _ lt_ge).trans kge0, ((bcell hK.out).1 _ _ lt_ge).trans kge1, hK⟩) ?_; (first | with_reducible assumption | with_reducible exact bx_alloc (by with_reducible assumption) _ | with_reducible exact bx_drew (by with_reducible assumption) | with_reducible exact bx_drew (bx_alloc (by with_reducible assumption) _)))
        case rest5013 =>
        clear hK K
        try simp only [Act.put, List.setIfInBounds_toArray, List.set_cons_zero, List.set_cons_succ]
        refine wpAnyH_take (i := 13) (v := ?v5014) (at_list rfl) (by kernel_rfl) (by kernel_rfl) (by kernel_rfl) (fun _ _ _ h => h) (Or.inl ⟨by rfl, ?hy5014⟩) (by assumption) ?rest5014
        case hy5014 => intro w hSw; (try dsimp only at hSw); go_simp; try (with_reducible rfl)
        case rest5014 =>
        try simp only [Act.put, List.setIfInBounds_toArray, List.set_cons_zero, List.set_cons_succ]
        refine wpAnyH_take (i := 14) (v := ?v5015) (at_list rfl) (by kernel_rfl) (by kernel_rfl) (by kernel_rfl) (fun _ _ _ h => h) (Or.inl ⟨by rfl, ?hy5015⟩) (by assumption) ?rest5015
        case hy5015 => intro w hSw; (try dsimp only at hSw); go_simp; try (with_reducible rfl)
        case rest5015 =>
        try simp only [Act.put, List.setIfInBounds_toArray, List.set_cons_zero, List.set_cons_succ]
        refine wpAnyH_take (i := 15) (v := ?v5016) (at_list rfl) (by kernel_rfl) (by kernel_rfl) (by kernel_rfl) (fun _ _ _ h => h) (Or.inl ⟨by rfl, ?hy5016⟩) (by assumption) ?rest5016
        case hy5016 => intro w hSw; (try dsimp only at hSw); go_simp; try (with_reducible rfl)
        case rest5016 =>
        try simp only [Act.put, List.setIfInBounds_toArray, List.set_cons_zero, List.set_cons_succ]
        refine wpAnyH_ready (rs := [16]) (by kernel_rfl) (by simp) ?_
        refine AllReadyH.cons (at_list rfl) (fun K hK => ?_) AllReadyH.nil
        go_simp
        go_at_call 13; refine (HIE.out _ _ _ (by exact HE.out.below (Bx.out (by (first | with_reducible assumption | with_reducible exact bx_alloc (by with_reducible assumption) _ | with_reducible exact bx_drew (by with_reducible assumption) | with_reducible exact bx_drew (bx_alloc (by with_reducible assumption) _)))))).mono ?_; rintro e w62 ⟨rfl, bw62⟩; have hBw62 : Bx (Below w58.heap.size w58 w62) := bx_to (by (first | with_reducible assumption | with_reducible exact bx_alloc (by with_reducible assumption) _ | with_reducible exact bx_drew (by with_reducible assumption) | with_reducible exact bx_drew (bx_alloc (by with_reducible assumption) _))) bw62; have hzw62 := bx_size hBw62; have kgx0_w62 := ((bcell hBw62.out).1 _ _ lt_gx).trans kgx0; have kgx1_w62 := ((bcell hBw62.out).1 _ _ lt_gx).trans kgx1; have kge0_w62 := ((bcell hBw62.out).1 _ _ lt_ge).trans kge0; have kge1_w62 := ((bcell hBw62.out).1 _ _ lt_ge).trans kge1
        refine hK.out _ _ ?hS5017 (fun hHeld => ?rest5017)
        case hS5017 => (try dsimp only); (refine (fun (hK : Bx (Below w58.heap.size w58 _)) => ⟨((bcell hK.out).1 _ _ lt_gx).trans kgx0, ((bcell hK.out).1 _ _ lt_gx).trans kgx1, ((bcell hK.out).1 _ _ lt_ge).trans kge0, ((bcell hK.out).1 _ _ lt_ge).trans kge1, hK⟩) ?_; (first | with_reducible assumption | with_reducible exact bx_alloc (by with_reducible assumption) _ | with_reducible exact bx_drew (by with_reducible assumption) | with_reducible exact bx_drew (bx_alloc (by with_reducible assumption) _)))
        case rest5017 =>
        clear hK K
        try simp only [Act.put, List.setIfInBounds_toArray, List.set_cons_zero, List.set_cons_succ]
        refine wpAnyH_take (i := 17) (v := ?v5018) (at_list rfl) (by kernel_rfl) (by kernel_rfl) (by kernel_rfl) (fun _ _ _ h => h) (Or.inl ⟨by rfl, ?hy5018⟩) (by assumption) ?rest5018
        case hy5018 => intro w hSw; (try dsimp only at hSw); go_simp; try (with_reducible rfl)
        case rest5018 =>
        try simp only [Act.put, List.setIfInBounds_toArray, List.set_cons_zero, List.set_cons_succ]
        refine wpAnyH_take (i := 18) (v := ?v5019) (at_list rfl) (by kernel_rfl) (by kernel_rfl) (by kernel_rfl) (fun _ _ _ h => h) (Or.inl ⟨by rfl, ?hy5019⟩) (by assumption) ?rest5019
        case hy5019 => intro w hSw; (try dsimp only at hSw); go_simp; try (with_reducible rfl)
        case rest5019 =>
        try simp only [Act.put, List.setIfInBounds_toArray, List.set_cons_zero, List.set_cons_succ]
        refine wpAnyH_take (i := 19) (v := ?v5020) (at_list rfl) (by kernel_rfl) (by kernel_rfl) (by kernel_rfl) (fun _ _ _ h => h) (Or.inl ⟨by rfl, ?hy5020⟩) (by assumption) ?rest5020
        case hy5020 => intro w hSw; (try dsimp only at hSw); go_simp; try (with_reducible rfl)
        case rest5020 =>
        try simp only [Act.put, List.setIfInBounds_toArray, List.set_cons_zero, List.set_cons_succ]
        refine wpAnyH_ready (rs := [20]) (by kernel_rfl) (by simp) ?_
        refine AllReadyH.cons (at_list rfl) (fun K hK => ?_) AllReadyH.nil
        go_simp
        refine hK.out _ _ ?hS5021 (fun hHeld => ?rest5021)
        case hS5021 => (try dsimp only); (refine (fun (hK : Bx (Below w58.heap.size w58 _)) => ⟨((bcell hK.out).1 _ _ lt_gx).trans kgx0, ((bcell hK.out).1 _ _ lt_gx).trans kgx1, ((bcell hK.out).1 _ _ lt_ge).trans kge0, ((bcell hK.out).1 _ _ lt_ge).trans kge1, hK⟩) ?_; (first | with_reducible assumption | with_reducible exact bx_alloc (by with_reducible assumption) _ | with_reducible exact bx_drew (by with_reducible assumption) | with_reducible exact bx_drew (bx_alloc (by with_reducible assumption) _)))
        case rest5021 =>
        clear hK K
        try simp only [Act.put, List.setIfInBounds_toArray, List.set_cons_zero, List.set_cons_succ]
        refine wpAnyH_take (i := 21) (v := ?v5022) (at_list rfl) (by kernel_rfl) (by kernel_rfl) (by kernel_rfl) (fun _ _ _ h => h) (Or.inl ⟨by rfl, ?hy5022⟩) (by assumption) ?rest5022
        case hy5022 => intro w hSw; (try dsimp only at hSw); go_simp; try (with_reducible rfl)
        case rest5022 =>
        try simp only [Act.put, List.setIfInBounds_toArray, List.set_cons_zero, List.set_cons_succ]
        refine wpAnyH_ready (rs := [22]) (by kernel_rfl) (by simp) ?_
        refine AllReadyH.cons (at_list rfl) (fun K hK => ?_) AllReadyH.nil
        go_simp
        go_at_call 21; refine (HTL.out _ _ _ (by exact gw_lit _)).mono ?_; rintro e w63 ⟨rfl, bw63⟩; have hBw63 : Bx (Below w58.heap.size w58 w63) := bx_to (by (first | with_reducible assumption | with_reducible exact bx_alloc (by with_reducible assumption) _ | with_reducible exact bx_drew (by with_reducible assumption) | with_reducible exact bx_drew (bx_alloc (by with_reducible assumption) _))) bw63; have hzw63 := bx_size hBw63; have kgx0_w63 := ((bcell hBw63.out).1 _ _ lt_gx).trans kgx0; have kgx1_w63 := ((bcell hBw63.out).1 _ _ lt_gx).trans kgx1; have kge0_w63 := ((bcell hBw63.out).1 _ _ lt_ge).trans kge0; have kge1_w63 := ((bcell hBw63.out).1 _ _ lt_ge).trans kge1
        refine hK.out _ _ ?hS5023 (fun hHeld => ?rest5023)
        case hS5023 => (try dsimp only); (refine (fun (hK : Bx (Below w58.heap.size w58 _)) => ⟨((bcell hK.out).1 _ _ lt_gx).trans kgx0, ((bcell hK.out).1 _ _ lt_gx).trans kgx1, ((bcell hK.out).1 _ _ lt_ge).trans kge0, ((bcell hK.out).1 _ _ lt_ge).trans kge1, hK⟩) ?_; (first | with_reducible assumption | with_reducible exact bx_alloc (by with_reducible assumption) _ | with_reducible exact bx_drew (by with_reducible assumption) | with_reducible exact bx_drew (bx_alloc (by with_reducible assumption) _)))
        case rest5023 =>
        clear hK K
        try simp only [Act.put, List.setIfInBounds_toArray, List.set_cons_zero, List.set_cons_succ]
        refine wpAnyH_take (i := 23) (v := ?v5024) (at_list rfl) (by kernel_rfl) (by kernel_rfl) (by kernel_rfl) (fun _ _ _ h => h) (Or.inl ⟨by rfl, ?hy5024⟩) (by assumption) ?rest5024
        case hy5024 => intro w hSw; (try dsimp only at hSw); go_simp; try (with_reducible rfl)
        case rest5024 =>
        try simp only [Act.put, List.setIfInBounds_toArray, List.set_cons_zero, List.set_cons_succ]
        refine wpAnyH_take (i := 24) (v := ?v5025) (at_list rfl) (by kernel_rfl) (by kernel_rfl) (by kernel_rfl) (fun _ _ _ h => h) (Or.inl ⟨by rfl, ?hy5025⟩) (by assumption) ?rest5025
        case hy5025 => intro w hSw; (try dsimp only at hSw); go_simp; try (with_reducible rfl)
        case rest5025 =>
        try simp only [Act.put, List.setIfInBounds_toArray, List.set_cons_zero, List.set_cons_succ]
        refine wpAnyH_take (i := 25) (v := ?v5026) (at_list rfl) (by kernel_rfl) (by kernel_rfl) (by kernel_rfl) (fun _ _ _ h => h) (Or.inl ⟨by rfl, ?hy5026⟩) (by assumption) ?rest5026
        case hy5026 => intro w hSw; (try dsimp only at hSw); go_simp; try (with_reducible rfl)
        case rest5026 =>
        try simp only [Act.put, List.setIfInBounds_toArray, List.set_cons_zero, List.set_cons_succ]
        refine wpAnyH_take (i := 27) (v := ?v5027) (at_list rfl) (by kernel_rfl) (by kernel_rfl) (by kernel_rfl) (fun _ _ _ h => h) (Or.inl ⟨by rfl, ?hy5027⟩) (by assumption) ?rest5027
        case hy5027 => intro w hSw; (try dsimp only at hSw); go_simp; try (with_reducible rfl)
        case rest5027 =>
        try simp only [Act.put, List.setIfInBounds_toArray, List.set_cons_zero, List.set_cons_succ]
        refine wpAnyH_ready (rs := [26]) (by kernel_rfl) (by simp) ?_
        refine AllReadyH.cons (at_list rfl) (fun K hK => ?_) AllReadyH.nil
        go_simp
        go_at_call 14; refine (HCX.out _ _ _ (by exact HX.out.below (Bx.out (by (first | with_reducible assumption | with_reducible exact bx_alloc (by with_reducible assumption) _ | with_reducible exact bx_drew (by with_reducible assumption) | with_reducible exact bx_drew (bx_alloc (by with_reducible assumption) _)))))).mono ?_; rintro e w64 ⟨rfl, bw64⟩; have hBw64 : Bx (Below w58.heap.size w58 w64) := bx_to (by (first | with_reducible assumption | with_reducible exact bx_alloc (by with_reducible assumption) _ | with_reducible exact bx_drew (by with_reducible assumption) | with_reducible exact bx_drew (bx_alloc (by with_reducible assumption) _))) bw64; have hzw64 := bx_size hBw64; have kgx0_w64 := ((bcell hBw64.out).1 _ _ lt_gx).trans kgx0; have kgx1_w64 := ((bcell hBw64.out).1 _ _ lt_gx).trans kgx1; have kge0_w64 := ((bcell hBw64.out).1 _ _ lt_ge).trans kge0; have kge1_w64 := ((bcell hBw64.out).1 _ _ lt_ge).trans kge1
        refine hK.out _ _ ?hS5028 (fun hHeld => ?rest5028)
        case hS5028 => (try dsimp only); (refine (fun (hK : Bx (Below w58.heap.size w58 _)) => ⟨((bcell hK.out).1 _ _ lt_gx).trans kgx0, ((bcell hK.out).1 _ _ lt_gx).trans kgx1, ((bcell hK.out).1 _ _ lt_ge).trans kge0, ((bcell hK.out).1 _ _ lt_ge).trans kge1, hK⟩) ?_; (first | with_reducible assumption | with_reducible exact bx_alloc (by with_reducible assumption) _ | with_reducible exact bx_drew (by with_reducible assumption) | with_reducible exact bx_drew (bx_alloc (by with_reducible assumption) _)))
        case rest5028 =>
        clear hK K
        try simp only [Act.put, List.setIfInBounds_toArray, List.set_cons_zero, List.set_cons_succ]
        refine wpAnyH_ready (rs := [28]) (by kernel_rfl) (by simp) ?_
        refine AllReadyH.cons (at_list rfl) (fun K hK => ?_) AllReadyH.nil
        go_simp
        go_at_call 22; refine (HSX.out _ _ _ (by exact HX.out.below (Bx.out (by (first | with_reducible assumption | with_reducible exact bx_alloc (by with_reducible assumption) _ | with_reducible exact bx_drew (by with_reducible assumption) | with_reducible exact bx_drew (bx_alloc (by with_reducible assumption) _)))))).mono ?_; rintro e w65 ⟨Bw65, dw65, rfl, bw65⟩; have hBw65 : Bx (Below w58.heap.size w58 w65) := bx_to (by (first | with_reducible assumption | with_reducible exact bx_alloc (by with_reducible assumption) _ | with_reducible exact bx_drew (by with_reducible assumption) | with_reducible exact bx_drew (bx_alloc (by with_reducible assumption) _))) bw65; have hzw65 := bx_size hBw65; have kgx0_w65 := ((bcell hBw65.out).1 _ _ lt_gx).trans kgx0; have kgx1_w65 := ((bcell hBw65.out).1 _ _ lt_gx).trans kgx1; have kge0_w65 := ((bcell hBw65.out).1 _ _ lt_ge).trans kge0; have kge1_w65 := ((bcell hBw65.out).1 _ _ lt_ge).trans kge1
        refine hK.out _ _ ?hS5029 (fun hHeld => ?rest5029)
        case hS5029 => (try dsimp only); (refine (fun (hK : Bx (Below w58.heap.size w58 _)) => ⟨((bcell hK.out).1 _ _ lt_gx).trans kgx0, ((bcell hK.out).1 _ _ lt_gx).trans kgx1, ((bcell hK.out).1 _ _ lt_ge).trans kge0, ((bcell hK.out).1 _ _ lt_ge).trans kge1, hK⟩) ?_; (first | with_reducible assumption | with_reducible exact bx_alloc (by with_reducible assumption) _ | with_reducible exact bx_drew (by with_reducible assumption) | with_reducible exact bx_drew (bx_alloc (by with_reducible assumption) _)))
        case rest5029 =>
        clear hK K
        try simp only [Act.put, List.setIfInBounds_toArray, List.set_cons_zero, List.set_cons_succ]
        refine wpAnyH_take (i := 29) (v := ?v5030) (at_list rfl) (by kernel_rfl) (by kernel_rfl) (by kernel_rfl) (fun _ _ _ h => h) (Or.inl ⟨by rfl, ?hy5030⟩) (by assumption) ?rest5030
        case hy5030 => intro w hSw; (try dsimp only at hSw); go_simp; try (with_reducible rfl)
        case rest5030 =>
        try simp only [Act.put, List.setIfInBounds_toArray, List.set_cons_zero, List.set_cons_succ]
        refine wpAnyH_take (i := 30) (v := ?v5031) (at_list rfl) (by kernel_rfl) (by kernel_rfl) (by kernel_rfl) (fun _ _ _ h => h) (Or.inl ⟨by rfl, ?hy5031⟩) (by assumption) ?rest5031
        case hy5031 => intro w hSw; (try dsimp only at hSw); go_simp; try (with_reducible rfl)
        case rest5031 =>
        try simp only [Act.put, List.setIfInBounds_toArray, List.set_cons_zero, List.set_cons_succ]
        refine wpAnyH_take (i := 31) (v := ?v5032) (at_list rfl) (by kernel_rfl) (by kernel_rfl) (by kernel_rfl) (fun _ _ _ h => h) (Or.inl ⟨by rfl, ?hy5032⟩) (by assumption) ?rest5032
        case hy5032 => intro w hSw; (try dsimp only at hSw); go_simp; try (with_reducible rfl)
        case rest5032 =>
        try simp only [Act.put, List.setIfInBounds_toArray, List.set_cons_zero, List.set_cons_succ]
        refine wpAnyH_ready (rs := [32]) (by kernel_rfl) (by simp) ?_
        refine AllReadyH.cons (at_list rfl) (fun K hK => ?_) AllReadyH.nil
        go_simp
        refine hK.out _ _ ?hS5033 (fun hHeld => ?rest5033)
        case hS5033 => (try dsimp only); (refine (fun (hK : Bx (Below w58.heap.size w58 _)) => ⟨((bcell hK.out).1 _ _ lt_gx).trans kgx0, ((bcell hK.out).1 _ _ lt_gx).trans kgx1, ((bcell hK.out).1 _ _ lt_ge).trans kge0, ((bcell hK.out).1 _ _ lt_ge).trans kge1, hK⟩) ?_; (first | with_reducible assumption | with_reducible exact bx_alloc (by with_reducible assumption) _ | with_reducible exact bx_drew (by with_reducible assumption) | with_reducible exact bx_drew (bx_alloc (by with_reducible assumption) _)))
        case rest5033 =>
        clear hK K
        try simp only [Act.put, List.setIfInBounds_toArray, List.set_cons_zero, List.set_cons_succ]
        refine wpAnyH_done (by kernel_rfl) ?_ _
        have b := hBw65.out
        replace kgr0 := ((bcell b).1 _ _ lt_gr).trans kgr0
        replace kgr1 := ((bcell b).1 _ _ lt_gr).trans kgr1
        replace kgx0 := ((bcell b).1 _ _ lt_gx).trans kgx0
        replace kgx1 := ((bcell b).1 _ _ lt_gx).trans kgx1
        replace kge0 := ((bcell b).1 _ _ lt_ge).trans kge0
        replace kge1 := ((bcell b).1 _ _ lt_ge).trans kge1
        replace lt_gr := Nat.lt_of_lt_of_le lt_gr b.size
        replace lt_gx := Nat.lt_of_lt_of_le lt_gx b.size
        replace lt_ge := Nat.lt_of_lt_of_le lt_ge b.size
        replace HX := Bx.mk (HX.out.below b)
        replace HE := Bx.mk (HE.out.below b)
        replace HB := Bx.mk (HB.out.below b)
        replace bw := bw.trans (b.mono bw.size)
        clear b
        go_wp2_with fail
        go_ret
        exact ⟨rfl, bw⟩
      · skip
        have hgb : ((gx2 : Int) != 1) = true := by rw [bne_iff_ne]; omega
        clear HEI hg1
        have hB : Bx (Below w58.heap.size w58 w58.drew) := ⟨(Below.refl _ _).drew⟩
        have hB0 : Bx (Below w58.heap.size w58 w58) := ⟨Below.refl _ _⟩
        have kgx0_d : w58.drew.cell? _ = _ := kgx0
        have kgx1_d : w58.drew.cell? _ = _ := kgx1
        have kge0_d : w58.drew.cell? _ = _ := kge0
        have kge1_d : w58.drew.cell? _ = _ := kge1
        refine wp_region_held_drew (S := fun w' => w'.cell? ⟨gx, 0, none⟩ = some (.int .i64 n) ∧ w'.cell? ⟨gx, 1, none⟩ = some (.slice Ax x.length cx) ∧ w'.cell? ⟨ge, 0, none⟩ = some (.int .i64 n) ∧ w'.cell? ⟨ge, 1, none⟩ = some (.slice AE E.length cE) ∧ Bx (Below w58.heap.size w58 w')) (by kernel_rfl) ?hS6000 (fun hHeld => ?rest6000)
        case hS6000 => (try dsimp only); (refine (fun (hK : Bx (Below w58.heap.size w58 _)) => ⟨((bcell hK.out).1 _ _ lt_gx).trans kgx0, ((bcell hK.out).1 _ _ lt_gx).trans kgx1, ((bcell hK.out).1 _ _ lt_ge).trans kge0, ((bcell hK.out).1 _ _ lt_ge).trans kge1, hK⟩) ?_; (first | with_reducible assumption | with_reducible exact bx_alloc (by with_reducible assumption) _ | with_reducible exact bx_drew (by with_reducible assumption) | with_reducible exact bx_drew (bx_alloc (by with_reducible assumption) _)))
        case rest6000 =>
        refine wpAnyH_take (i := 0) (v := ?v6001) (at_list rfl) (by kernel_rfl) (by kernel_rfl) (by kernel_rfl) (fun _ _ _ h => h) (Or.inl ⟨by rfl, ?hy6001⟩) (by assumption) ?rest6001
        case hy6001 => intro w hSw; (try dsimp only at hSw); go_simp; try (with_reducible rfl)
        case rest6001 =>
        try simp only [Act.put, List.setIfInBounds_toArray, List.set_cons_zero, List.set_cons_succ]
        refine wpAnyH_ready (rs := [1]) (by kernel_rfl) (by simp) ?_
        refine AllReadyH.cons (at_list rfl) (fun K hK => ?_) AllReadyH.nil
        go_simp
        go_at_call 21; refine (HTX.out _ _ _ (by exact HX.out.below (Bx.out (by (first | with_reducible assumption | with_reducible exact bx_alloc (by with_reducible assumption) _ | with_reducible exact bx_drew (by with_reducible assumption) | with_reducible exact bx_drew (bx_alloc (by with_reducible assumption) _)))))).mono ?_; rintro e w66 ⟨rfl, bw66⟩; have hBw66 : Bx (Below w58.heap.size w58 w66) := bx_to (by (first | with_reducible assumption | with_reducible exact bx_alloc (by with_reducible assumption) _ | with_reducible exact bx_drew (by with_reducible assumption) | with_reducible exact bx_drew (bx_alloc (by with_reducible assumption) _))) bw66; have hzw66 := bx_size hBw66; have kgx0_w66 := ((bcell hBw66.out).1 _ _ lt_gx).trans kgx0; have kgx1_w66 := ((bcell hBw66.out).1 _ _ lt_gx).trans kgx1; have kge0_w66 := ((bcell hBw66.out).1 _ _ lt_ge).trans kge0; have kge1_w66 := ((bcell hBw66.out).1 _ _ lt_ge).trans kge1
        refine hK.out _ _ ?hS6002 (fun hHeld => ?rest6002)
        case hS6002 => (try dsimp only); (refine (fun (hK : Bx (Below w58.heap.size w58 _)) => ⟨((bcell hK.out).1 _ _ lt_gx).trans kgx0, ((bcell hK.out).1 _ _ lt_gx).trans kgx1, ((bcell hK.out).1 _ _ lt_ge).trans kge0, ((bcell hK.out).1 _ _ lt_ge).trans kge1, hK⟩) ?_; (first | with_reducible assumption | with_reducible exact bx_alloc (by with_reducible assumption) _ | with_reducible exact bx_drew (by with_reducible assumption) | with_reducible exact bx_drew (bx_alloc (by with_reducible assumption) _)))
        case rest6002 =>
        clear hK K
        try simp only [Act.put, List.setIfInBounds_toArray, List.set_cons_zero, List.set_cons_succ]
        refine wpAnyH_take (i := 2) (v := ?v6003) (at_list rfl) (by kernel_rfl) (by kernel_rfl) (by kernel_rfl) (fun _ _ _ h => h) (Or.inl ⟨by rfl, ?hy6003⟩) (by assumption) ?rest6003
        case hy6003 => intro w hSw; (try dsimp only at hSw); go_simp; try (with_reducible rfl)
        case rest6003 =>
        try simp only [Act.put, List.setIfInBounds_toArray, List.set_cons_zero, List.set_cons_succ]
        refine wpAnyH_take (i := 3) (v := ?v6004) (at_list rfl) (by kernel_rfl) (by kernel_rfl) (by kernel_rfl) (fun _ _ _ h => h) (Or.inl ⟨by rfl, ?hy6004⟩) (by assumption) ?rest6004
        case hy6004 => intro w hSw; (try dsimp only at hSw); go_simp; try (with_reducible rfl)
        case rest6004 =>
        try simp only [Act.put, List.setIfInBounds_toArray, List.set_cons_zero, List.set_cons_succ]
        refine wpAnyH_take (i := 4) (v := ?v6005) (at_list rfl) (by kernel_rfl) (by kernel_rfl) (by kernel_rfl) (fun _ _ _ h => h) (Or.inl ⟨by rfl, ?hy6005⟩) (by assumption) ?rest6005
        case hy6005 => intro w hSw; (try dsimp only at hSw); go_simp; try (with_reducible rfl)
        case rest6005 =>
        try simp only [Act.put, List.setIfInBounds_toArray, List.set_cons_zero, List.set_cons_succ]
        refine wpAnyH_ready (rs := [5]) (by kernel_rfl) (by simp) ?_
        refine AllReadyH.cons (at_list rfl) (fun K hK => ?_) AllReadyH.nil
        go_simp
        go_at_call 13; refine (HIX.out _ _ _ (by exact HX.out.below (Bx.out (by (first | with_reducible assumption | with_reducible exact bx_alloc (by with_reducible assumption) _ | with_reducible exact bx_drew (by with_reducible assumption) | with_reducible exact bx_drew (bx_alloc (by with_reducible assumption) _)))))).mono ?_; rintro e w67 ⟨rfl, bw67⟩; have hBw67 : Bx (Below w58.heap.size w58 w67) := bx_to (by (first | with_reducible assumption | with_reducible exact bx_alloc (by with_reducible assumption) _ | with_reducible exact bx_drew (by with_reducible assumption) | with_reducible exact bx_drew (bx_alloc (by with_reducible assumption) _))) bw67; have hzw67 := bx_size hBw67; have kgx0_w67 := ((bcell hBw67.out).1 _ _ lt_gx).trans kgx0; have kgx1_w67 := ((bcell hBw67.out).1 _ _ lt_gx).trans kgx1; have kge0_w67 := ((bcell hBw67.out).1 _ _ lt_ge).trans kge0; have kge1_w67 := ((bcell hBw67.out).1 _ _ lt_ge).trans kge1
        refine hK.out _ _ ?hS6006 (fun hHeld => ?rest6006)
        case hS6006 => (try dsimp only); (refine (fun (hK : Bx (Below w58.heap.size w58 _)) => ⟨((bcell hK.out).1 _ _ lt_gx).trans kgx0, ((bcell hK.out).1 _ _ lt_gx).trans kgx1, ((bcell hK.out).1 _ _ lt_ge).trans kge0, ((bcell hK.out).1 _ _ lt_ge).trans kge1, hK⟩) ?_; (first | with_reducible assumption | with_reducible exact bx_alloc (by with_reducible assumption) _ | with_reducible exact bx_drew (by with_reducible assumption) | with_reducible exact bx_drew (bx_alloc (by with_reducible assumption) _)))
        case rest6006 =>
        clear hK K
        try simp only [Act.put, List.setIfInBounds_toArray, List.set_cons_zero, List.set_cons_succ]
        refine wpAnyH_take (i := 6) (v := ?v6007) (at_list rfl) (by kernel_rfl) (by kernel_rfl) (by kernel_rfl) (fun _ _ _ h => h) (Or.inl ⟨by rfl, ?hy6007⟩) (by assumption) ?rest6007
        case hy6007 => intro w hSw; (try dsimp only at hSw); go_simp; try (with_reducible rfl)
        case rest6007 =>
        try simp only [Act.put, List.setIfInBounds_toArray, List.set_cons_zero, List.set_cons_succ]
        refine wpAnyH_take (i := 7) (v := ?v6008) (at_list rfl) (by kernel_rfl) (by kernel_rfl) (by kernel_rfl) (fun _ _ _ h => h) (Or.inl ⟨by rfl, ?hy6008⟩) (by assumption) ?rest6008
        case hy6008 => intro w hSw; (try dsimp only at hSw); go_simp; try (with_reducible rfl)
        case rest6008 =>
        try simp only [Act.put, List.setIfInBounds_toArray, List.set_cons_zero, List.set_cons_succ]
        refine wpAnyH_take (i := 8) (v := ?v6009) (at_list rfl) (by kernel_rfl) (by kernel_rfl) (by kernel_rfl) (fun _ _ _ h => h) (Or.inl ⟨by rfl, ?hy6009⟩) (by assumption) ?rest6009
        case hy6009 => intro w hSw; (try dsimp only at hSw); go_simp; try (with_reducible rfl)
        case rest6009 =>
        try simp only [Act.put, List.setIfInBounds_toArray, List.set_cons_zero, List.set_cons_succ]
        refine wpAnyH_take (i := 9) (v := ?v6010) (at_list rfl) (by kernel_rfl) (by kernel_rfl) (by kernel_rfl) (fun _ _ _ h => h) (Or.inl ⟨by rfl, ?hy6010⟩) (by assumption) ?rest6010
        case hy6010 => intro w hSw; (try dsimp only at hSw); go_simp; try (with_reducible rfl)
        case rest6010 =>
        try simp only [Act.put, List.setIfInBounds_toArray, List.set_cons_zero, List.set_cons_succ]
        refine wpAnyH_take (i := 10) (v := ?v6011) (at_list rfl) (by kernel_rfl) (by kernel_rfl) (by kernel_rfl) (fun _ _ _ h => h) (Or.inl ⟨by rfl, ?hy6011⟩) (by assumption) ?rest6011
        case hy6011 => intro w hSw; (try dsimp only at hSw); go_simp; try (with_reducible rfl)
        case rest6011 =>
        try simp only [Act.put, List.setIfInBounds_toArray, List.set_cons_zero, List.set_cons_succ]
        refine wpAnyH_take (i := 11) (v := ?v6012) (at_list rfl) (by kernel_rfl) (by kernel_rfl) (by kernel_rfl) (fun _ _ _ h => h) (Or.inl ⟨by rfl, ?hy6012⟩) (by assumption) ?rest6012
        case hy6012 => intro w hSw; (try dsimp only at hSw); go_simp; try (with_reducible rfl)
        case rest6012 =>
        try simp only [Act.put, List.setIfInBounds_toArray, List.set_cons_zero, List.set_cons_succ]
        refine wpAnyH_ready (rs := [12]) (by kernel_rfl) (by simp) ?_
        refine AllReadyH.cons (at_list rfl) (fun K hK => ?_) AllReadyH.nil
        go_simp
        go_at_call 6; refine (HGX.out _).mono ?_; rintro e w68 ⟨rfl, bw68⟩; have hBw68 : Bx (Below w58.heap.size w58 w68) := bx_to (by (first | with_reducible assumption | with_reducible exact bx_alloc (by with_reducible assumption) _ | with_reducible exact bx_drew (by with_reducible assumption) | with_reducible exact bx_drew (bx_alloc (by with_reducible assumption) _))) bw68; have hzw68 := bx_size hBw68; have kgx0_w68 := ((bcell hBw68.out).1 _ _ lt_gx).trans kgx0; have kgx1_w68 := ((bcell hBw68.out).1 _ _ lt_gx).trans kgx1; have kge0_w68 := ((bcell hBw68.out).1 _ _ lt_ge).trans kge0; have kge1_w68 := ((bcell hBw68.out).1 _ _ lt_ge).trans kge1
        refine hK.out _ _ ?hS6013 (fun hHeld => ?rest6013)
        case hS6013 => (try dsimp only); (refine (fun (hK : Bx (Below w58.heap.size w58 _)) => ⟨((bcell hK.out).1 _ _ lt_gx).trans kgx0, ((bcell hK.out).1 _ _ lt_gx).trans kgx1, ((bcell hK.out).1 _ _ lt_ge).trans kge0, ((bcell hK.out).1 _ _ lt_ge).trans kge1, hK⟩) ?_; (first | with_reducible assumption | with_reducible exact bx_alloc (by with_reducible assumption) _ | with_reducible exact bx_drew (by with_reducible assumption) | with_reducible exact bx_drew (bx_alloc (by with_reducible assumption) _)))
        case rest6013 =>
        clear hK K
        try simp only [Act.put, List.setIfInBounds_toArray, List.set_cons_zero, List.set_cons_succ]
        refine wpAnyH_take (i := 13) (v := ?v6014) (at_list rfl) (by kernel_rfl) (by kernel_rfl) (by kernel_rfl) (fun _ _ _ h => h) (Or.inl ⟨by rfl, ?hy6014⟩) (by assumption) ?rest6014
        case hy6014 => intro w hSw; (try dsimp only at hSw); go_simp; try (with_reducible rfl)
        case rest6014 =>
        try simp only [Act.put, List.setIfInBounds_toArray, List.set_cons_zero, List.set_cons_succ]
        refine wpAnyH_take (i := 14) (v := ?v6015) (at_list rfl) (by kernel_rfl) (by kernel_rfl) (by kernel_rfl) (fun _ _ _ h => h) (Or.inl ⟨by rfl, ?hy6015⟩) (by assumption) ?rest6015
        case hy6015 => intro w hSw; (try dsimp only at hSw); go_simp; try (with_reducible rfl)
        case rest6015 =>
        try simp only [Act.put, List.setIfInBounds_toArray, List.set_cons_zero, List.set_cons_succ]
        refine wpAnyH_take (i := 15) (v := undef) (at_list rfl) (by kernel_rfl) (by kernel_rfl) (by kernel_rfl) (fun _ _ _ h => h) (Or.inr ⟨by rfl, rfl⟩) (by assumption) ?rest6016
        case rest6016 =>
        try simp only [Act.put, List.setIfInBounds_toArray, List.set_cons_zero, List.set_cons_succ]
        refine wpAnyH_take (i := 16) (v := undef) (at_list rfl) (by kernel_rfl) (by kernel_rfl) (by kernel_rfl) (fun _ _ _ h => h) (Or.inr ⟨by rfl, rfl⟩) (by assumption) ?rest6017
        case rest6017 =>
        try simp only [Act.put, List.setIfInBounds_toArray, List.set_cons_zero, List.set_cons_succ]
        refine wpAnyH_take (i := 17) (v := ?v6018) (at_list rfl) (by kernel_rfl) (by kernel_rfl) (by kernel_rfl) (fun _ _ _ h => h) (Or.inl ⟨by rfl, ?hy6018⟩) (by assumption) ?rest6018
        case hy6018 => intro w hSw; (try dsimp only at hSw); go_simp; try (with_reducible rfl)
        case rest6018 =>
        try simp only [Act.put, List.setIfInBounds_toArray, List.set_cons_zero, List.set_cons_succ]
        refine wpAnyH_take (i := 18) (v := ?v6019) (at_list rfl) (by kernel_rfl) (by kernel_rfl) (by kernel_rfl) (fun _ _ _ h => h) (Or.inl ⟨by rfl, ?hy6019⟩) (by assumption) ?rest6019
        case hy6019 => intro w hSw; (try dsimp only at hSw); go_simp; try (with_reducible rfl)
        case rest6019 =>
        try simp only [Act.put, List.setIfInBounds_toArray, List.set_cons_zero, List.set_cons_succ]
        refine wpAnyH_take (i := 19) (v := ?v6020) (at_list rfl) (by kernel_rfl) (by kernel_rfl) (by kernel_rfl) (fun _ _ _ h => h) (Or.inl ⟨by rfl, ?hy6020⟩) (by assumption) ?rest6020
        case hy6020 => intro w hSw; (try dsimp only at hSw); go_simp; try (with_reducible rfl)
        case rest6020 =>
        try simp only [Act.put, List.setIfInBounds_toArray, List.set_cons_zero, List.set_cons_succ]
        refine wpAnyH_ready (rs := [20]) (by kernel_rfl) (by simp) ?_
        refine AllReadyH.cons (at_list rfl) (fun K hK => ?_) AllReadyH.nil
        go_simp
        refine hK.out _ _ ?hS6021 (fun hHeld => ?rest6021)
        case hS6021 => (try dsimp only); (refine (fun (hK : Bx (Below w58.heap.size w58 _)) => ⟨((bcell hK.out).1 _ _ lt_gx).trans kgx0, ((bcell hK.out).1 _ _ lt_gx).trans kgx1, ((bcell hK.out).1 _ _ lt_ge).trans kge0, ((bcell hK.out).1 _ _ lt_ge).trans kge1, hK⟩) ?_; (first | with_reducible assumption | with_reducible exact bx_alloc (by with_reducible assumption) _ | with_reducible exact bx_drew (by with_reducible assumption) | with_reducible exact bx_drew (bx_alloc (by with_reducible assumption) _)))
        case rest6021 =>
        clear hK K
        try simp only [Act.put, List.setIfInBounds_toArray, List.set_cons_zero, List.set_cons_succ]
        refine wpAnyH_take (i := 21) (v := ?v6022) (at_list rfl) (by kernel_rfl) (by kernel_rfl) (by kernel_rfl) (fun _ _ _ h => h) (Or.inl ⟨by rfl, ?hy6022⟩) (by assumption) ?rest6022
        case hy6022 => intro w hSw; (try dsimp only at hSw); go_simp; try (with_reducible rfl)
        case rest6022 =>
        try simp only [Act.put, List.setIfInBounds_toArray, List.set_cons_zero, List.set_cons_succ]
        refine wpAnyH_ready (rs := [22]) (by kernel_rfl) (by simp) ?_
        refine AllReadyH.cons (at_list rfl) (fun K hK => ?_) AllReadyH.nil
        go_simp
        go_at_call 21; refine (HTL.out _ _ _ (by exact gw_lit _)).mono ?_; rintro e w69 ⟨rfl, bw69⟩; have hBw69 : Bx (Below w58.heap.size w58 w69) := bx_to (by (first | with_reducible assumption | with_reducible exact bx_alloc (by with_reducible assumption) _ | with_reducible exact bx_drew (by with_reducible assumption) | with_reducible exact bx_drew (bx_alloc (by with_reducible assumption) _))) bw69; have hzw69 := bx_size hBw69; have kgx0_w69 := ((bcell hBw69.out).1 _ _ lt_gx).trans kgx0; have kgx1_w69 := ((bcell hBw69.out).1 _ _ lt_gx).trans kgx1; have kge0_w69 := ((bcell hBw69.out).1 _ _ lt_ge).trans kge0; have kge1_w69 := ((bcell hBw69.out).1 _ _ lt_ge).trans kge1
        refine hK.out _ _ ?hS6023 (fun hHeld => ?rest6023)
        case hS6023 => (try dsimp only); (refine (fun (hK : Bx (Below w58.heap.size w58 _)) => ⟨((bcell hK.out).1 _ _ lt_gx).trans kgx0, ((bcell hK.out).1 _ _ lt_gx).trans kgx1, ((bcell hK.out).1 _ _ lt_ge).trans kge0, ((bcell hK.out).1 _ _ lt_ge).trans kge1, hK⟩) ?_; (first | with_reducible assumption | with_reducible exact bx_alloc (by with_reducible assumption) _ | with_reducible exact bx_drew (by with_reducible assumption) | with_reducible exact bx_drew (bx_alloc (by with_reducible assumption) _)))
        case rest6023 =>
        clear hK K
        try simp only [Act.put, List.setIfInBounds_toArray, List.set_cons_zero, List.set_cons_succ]
        refine wpAnyH_take (i := 23) (v := ?v6024) (at_list rfl) (by kernel_rfl) (by kernel_rfl) (by kernel_rfl) (fun _ _ _ h => h) (Or.inl ⟨by rfl, ?hy6024⟩) (by assumption) ?rest6024
        case hy6024 => intro w hSw; (try dsimp only at hSw); go_simp; try (with_reducible rfl)
        case rest6024 =>
        try simp only [Act.put, List.setIfInBounds_toArray, List.set_cons_zero, List.set_cons_succ]
        refine wpAnyH_take (i := 24) (v := ?v6025) (at_list rfl) (by kernel_rfl) (by kernel_rfl) (by kernel_rfl) (fun _ _ _ h => h) (Or.inl ⟨by rfl, ?hy6025⟩) (by assumption) ?rest6025
        case hy6025 => intro w hSw; (try dsimp only at hSw); go_simp; try (with_reducible rfl)
        case rest6025 =>
        try simp only [Act.put, List.setIfInBounds_toArray, List.set_cons_zero, List.set_cons_succ]
        refine wpAnyH_take (i := 25) (v := ?v6026) (at_list rfl) (by kernel_rfl) (by kernel_rfl) (by kernel_rfl) (fun _ _ _ h => h) (Or.inl ⟨by rfl, ?hy6026⟩) (by assumption) ?rest6026
        case hy6026 => intro w hSw; (try dsimp only at hSw); go_simp; try (with_reducible rfl)
        case rest6026 =>
        try simp only [Act.put, List.setIfInBounds_toArray, List.set_cons_zero, List.set_cons_succ]
        refine wpAnyH_take (i := 27) (v := ?v6027) (at_list rfl) (by kernel_rfl) (by kernel_rfl) (by kernel_rfl) (fun _ _ _ h => h) (Or.inl ⟨by rfl, ?hy6027⟩) (by assumption) ?rest6027
        case hy6027 => intro w hSw; (try dsimp only at hSw); go_simp; try (with_reducible rfl)
        case rest6027 =>
        try simp only [Act.put, List.setIfInBounds_toArray, List.set_cons_zero, List.set_cons_succ]
        refine wpAnyH_ready (rs := [26]) (by kernel_rfl) (by simp) ?_
        refine AllReadyH.cons (at_list rfl) (fun K hK => ?_) AllReadyH.nil
        go_simp
        go_at_call 14; refine (HCX.out _ _ _ (by exact HX.out.below (Bx.out (by (first | with_reducible assumption | with_reducible exact bx_alloc (by with_reducible assumption) _ | with_reducible exact bx_drew (by with_reducible assumption) | with_reducible exact bx_drew (bx_alloc (by with_reducible assumption) _)))))).mono ?_; rintro e w70 ⟨rfl, bw70⟩; have hBw70 : Bx (Below w58.heap.size w58 w70) := bx_to (by (first | with_reducible assumption | with_reducible exact bx_alloc (by with_reducible assumption) _ | with_reducible exact bx_drew (by with_reducible assumption) | with_reducible exact bx_drew (bx_alloc (by with_reducible assumption) _))) bw70; have hzw70 := bx_size hBw70; have kgx0_w70 := ((bcell hBw70.out).1 _ _ lt_gx).trans kgx0; have kgx1_w70 := ((bcell hBw70.out).1 _ _ lt_gx).trans kgx1; have kge0_w70 := ((bcell hBw70.out).1 _ _ lt_ge).trans kge0; have kge1_w70 := ((bcell hBw70.out).1 _ _ lt_ge).trans kge1
        refine hK.out _ _ ?hS6028 (fun hHeld => ?rest6028)
        case hS6028 => (try dsimp only); (refine (fun (hK : Bx (Below w58.heap.size w58 _)) => ⟨((bcell hK.out).1 _ _ lt_gx).trans kgx0, ((bcell hK.out).1 _ _ lt_gx).trans kgx1, ((bcell hK.out).1 _ _ lt_ge).trans kge0, ((bcell hK.out).1 _ _ lt_ge).trans kge1, hK⟩) ?_; (first | with_reducible assumption | with_reducible exact bx_alloc (by with_reducible assumption) _ | with_reducible exact bx_drew (by with_reducible assumption) | with_reducible exact bx_drew (bx_alloc (by with_reducible assumption) _)))
        case rest6028 =>
        clear hK K
        try simp only [Act.put, List.setIfInBounds_toArray, List.set_cons_zero, List.set_cons_succ]
        refine wpAnyH_ready (rs := [28]) (by kernel_rfl) (by simp) ?_
        refine AllReadyH.cons (at_list rfl) (fun K hK => ?_) AllReadyH.nil
        go_simp
        go_at_call 22; refine (HSX.out _ _ _ (by exact HX.out.below (Bx.out (by (first | with_reducible assumption | with_reducible exact bx_alloc (by with_reducible assumption) _ | with_reducible exact bx_drew (by with_reducible assumption) | with_reducible exact bx_drew (bx_alloc (by with_reducible assumption) _)))))).mono ?_; rintro e w71 ⟨Bw71, dw71, rfl, bw71⟩; have hBw71 : Bx (Below w58.heap.size w58 w71) := bx_to (by (first | with_reducible assumption | with_reducible exact bx_alloc (by with_reducible assumption) _ | with_reducible exact bx_drew (by with_reducible assumption) | with_reducible exact bx_drew (bx_alloc (by with_reducible assumption) _))) bw71; have hzw71 := bx_size hBw71; have kgx0_w71 := ((bcell hBw71.out).1 _ _ lt_gx).trans kgx0; have kgx1_w71 := ((bcell hBw71.out).1 _ _ lt_gx).trans kgx1; have kge0_w71 := ((bcell hBw71.out).1 _ _ lt_ge).trans kge0; have kge1_w71 := ((bcell hBw71.out).1 _ _ lt_ge).trans kge1
        refine hK.out _ _ ?hS6029 (fun hHeld => ?rest6029)
        case hS6029 => (try dsimp only); (refine (fun (hK : Bx (Below w58.heap.size w58 _)) => ⟨((bcell hK.out).1 _ _ lt_gx).trans kgx0, ((bcell hK.out).1 _ _ lt_gx).trans kgx1, ((bcell hK.out).1 _ _ lt_ge).trans kge0, ((bcell hK.out).1 _ _ lt_ge).trans kge1, hK⟩) ?_; (first | with_reducible assumption | with_reducible exact bx_alloc (by with_reducible assumption) _ | with_reducible exact bx_drew (by with_reducible assumption) | with_reducible exact bx_drew (bx_alloc (by with_reducible assumption) _)))
        case rest6029 =>
        clear hK K
        try simp only [Act.put, List.setIfInBounds_toArray, List.set_cons_zero, List.set_cons_succ]
        refine wpAnyH_take (i := 29) (v := ?v6030) (at_list rfl) (by kernel_rfl) (by kernel_rfl) (by kernel_rfl) (fun _ _ _ h => h) (Or.inl ⟨by rfl, ?hy6030⟩) (by assumption) ?rest6030
        case hy6030 => intro w hSw; (try dsimp only at hSw); go_simp; try (with_reducible rfl)
        case rest6030 =>
        try simp only [Act.put, List.setIfInBounds_toArray, List.set_cons_zero, List.set_cons_succ]
        refine wpAnyH_take (i := 30) (v := ?v6031) (at_list rfl) (by kernel_rfl) (by kernel_rfl) (by kernel_rfl) (fun _ _ _ h => h) (Or.inl ⟨by rfl, ?hy6031⟩) (by assumption) ?rest6031
        case hy6031 => intro w hSw; (try dsimp only at hSw); go_simp; try (with_reducible rfl)
        case rest6031 =>
        try simp only [Act.put, List.setIfInBounds_toArray, List.set_cons_zero, List.set_cons_succ]
        refine wpAnyH_take (i := 31) (v := ?v6032) (at_list rfl) (by kernel_rfl) (by kernel_rfl) (by kernel_rfl) (fun _ _ _ h => h) (Or.inl ⟨by rfl, ?hy6032⟩) (by assumption) ?rest6032
        case hy6032 => intro w hSw; (try dsimp only at hSw); go_simp; try (with_reducible rfl)
        case rest6032 =>
        try simp only [Act.put, List.setIfInBounds_toArray, List.set_cons_zero, List.set_cons_succ]
        refine wpAnyH_ready (rs := [32]) (by kernel_rfl) (by simp) ?_
        refine AllReadyH.cons (at_list rfl) (fun K hK => ?_) AllReadyH.nil
        go_simp
        refine hK.out _ _ ?hS6033 (fun hHeld => ?rest6033)
        case hS6033 => (try dsimp only); (refine (fun (hK : Bx (Below w58.heap.size w58 _)) => ⟨((bcell hK.out).1 _ _ lt_gx).trans kgx0, ((bcell hK.out).1 _ _ lt_gx).trans kgx1, ((bcell hK.out).1 _ _ lt_ge).trans kge0, ((bcell hK.out).1 _ _ lt_ge).trans kge1, hK⟩) ?_; (first | with_reducible assumption | with_reducible exact bx_alloc (by with_reducible assumption) _ | with_reducible exact bx_drew (by with_reducible assumption) | with_reducible exact bx_drew (bx_alloc (by with_reducible assumption) _)))
        case rest6033 =>
        clear hK K
        try simp only [Act.put, List.setIfInBounds_toArray, List.set_cons_zero, List.set_cons_succ]
        refine wpAnyH_done (by kernel_rfl) ?_ _
        have b := hBw71.out
        replace kgr0 := ((bcell b).1 _ _ lt_gr).trans kgr0
        replace kgr1 := ((bcell b).1 _ _ lt_gr).trans kgr1
        replace kgx0 := ((bcell b).1 _ _ lt_gx).trans kgx0
        replace kgx1 := ((bcell b).1 _ _ lt_gx).trans kgx1
        replace kge0 := ((bcell b).1 _ _ lt_ge).trans kge0
        replace kge1 := ((bcell b).1 _ _ lt_ge).trans kge1
        replace lt_gr := Nat.lt_of_lt_of_le lt_gr b.size
        replace lt_gx := Nat.lt_of_lt_of_le lt_gx b.size
        replace lt_ge := Nat.lt_of_lt_of_le lt_ge b.size
        replace HX := Bx.mk (HX.out.below b)
        replace HE := Bx.mk (HE.out.below b)
        replace HB := Bx.mk (HB.out.below b)
        replace bw := bw.trans (b.mono bw.size)
        clear b
        go_wp2_with fail
        go_ret
        exact ⟨rfl, bw⟩
    | false =>
      clear HTI
      by_cases hg1 : gx2 = 1
      · skip
        have hgb : ((gx2 : Int) != 1) = false := by rw [bne_eq_false_iff_eq]; omega
        have hie := HEI.out hg1
        have HIE : Bx (∀ A c W, IR W A E → Calls Try.prog 13 #[.agg #[.int .i64 n, .slice A E.length c]] W fun e w' => e = .returned (.bool true) ∧ Below W.heap.size W w') := ⟨fun A c W h => by have := implIsGen_any n A c E W ⟨by omega, by omega⟩ h; rw [hie] at this; exact this⟩
        clear hie
        clear HEI hg1
        have hB : Bx (Below w58.heap.size w58 w58.drew) := ⟨(Below.refl _ _).drew⟩
        have hB0 : Bx (Below w58.heap.size w58 w58) := ⟨Below.refl _ _⟩
        have kgx0_d : w58.drew.cell? _ = _ := kgx0
        have kgx1_d : w58.drew.cell? _ = _ := kgx1
        have kge0_d : w58.drew.cell? _ = _ := kge0
        have kge1_d : w58.drew.cell? _ = _ := kge1
        refine wp_region_held_drew (S := fun w' => w'.cell? ⟨gx, 0, none⟩ = some (.int .i64 n) ∧ w'.cell? ⟨gx, 1, none⟩ = some (.slice Ax x.length cx) ∧ w'.cell? ⟨ge, 0, none⟩ = some (.int .i64 n) ∧ w'.cell? ⟨ge, 1, none⟩ = some (.slice AE E.length cE) ∧ Bx (Below w58.heap.size w58 w')) (by kernel_rfl) ?hS7000 (fun hHeld => ?rest7000)
        case hS7000 => (try dsimp only); (refine (fun (hK : Bx (Below w58.heap.size w58 _)) => ⟨((bcell hK.out).1 _ _ lt_gx).trans kgx0, ((bcell hK.out).1 _ _ lt_gx).trans kgx1, ((bcell hK.out).1 _ _ lt_ge).trans kge0, ((bcell hK.out).1 _ _ lt_ge).trans kge1, hK⟩) ?_; (first | with_reducible assumption | with_reducible exact bx_alloc (by with_reducible assumption) _ | with_reducible exact bx_drew (by with_reducible assumption) | with_reducible exact bx_drew (bx_alloc (by with_reducible assumption) _)))
        case rest7000 =>
        refine wpAnyH_take (i := 0) (v := ?v7001) (at_list rfl) (by kernel_rfl) (by kernel_rfl) (by kernel_rfl) (fun _ _ _ h => h) (Or.inl ⟨by rfl, ?hy7001⟩) (by assumption) ?rest7001
        case hy7001 => intro w hSw; (try dsimp only at hSw); go_simp; try (with_reducible rfl)
        case rest7001 =>
        try simp only [Act.put, List.setIfInBounds_toArray, List.set_cons_zero, List.set_cons_succ]
        refine wpAnyH_ready (rs := [1]) (by kernel_rfl) (by simp) ?_
        refine AllReadyH.cons (at_list rfl) (fun K hK => ?_) AllReadyH.nil
        go_simp
        go_at_call 21; refine (HTX.out _ _ _ (by exact HX.out.below (Bx.out (by (first | with_reducible assumption | with_reducible exact bx_alloc (by with_reducible assumption) _ | with_reducible exact bx_drew (by with_reducible assumption) | with_reducible exact bx_drew (bx_alloc (by with_reducible assumption) _)))))).mono ?_; rintro e w72 ⟨rfl, bw72⟩; have hBw72 : Bx (Below w58.heap.size w58 w72) := bx_to (by (first | with_reducible assumption | with_reducible exact bx_alloc (by with_reducible assumption) _ | with_reducible exact bx_drew (by with_reducible assumption) | with_reducible exact bx_drew (bx_alloc (by with_reducible assumption) _))) bw72; have hzw72 := bx_size hBw72; have kgx0_w72 := ((bcell hBw72.out).1 _ _ lt_gx).trans kgx0; have kgx1_w72 := ((bcell hBw72.out).1 _ _ lt_gx).trans kgx1; have kge0_w72 := ((bcell hBw72.out).1 _ _ lt_ge).trans kge0; have kge1_w72 := ((bcell hBw72.out).1 _ _ lt_ge).trans kge1
        refine hK.out _ _ ?hS7002 (fun hHeld => ?rest7002)
        case hS7002 => (try dsimp only); (refine (fun (hK : Bx (Below w58.heap.size w58 _)) => ⟨((bcell hK.out).1 _ _ lt_gx).trans kgx0, ((bcell hK.out).1 _ _ lt_gx).trans kgx1, ((bcell hK.out).1 _ _ lt_ge).trans kge0, ((bcell hK.out).1 _ _ lt_ge).trans kge1, hK⟩) ?_; (first | with_reducible assumption | with_reducible exact bx_alloc (by with_reducible assumption) _ | with_reducible exact bx_drew (by with_reducible assumption) | with_reducible exact bx_drew (bx_alloc (by with_reducible assumption) _)))
        case rest7002 =>
        clear hK K
        try simp only [Act.put, List.setIfInBounds_toArray, List.set_cons_zero, List.set_cons_succ]
        refine wpAnyH_take (i := 2) (v := ?v7003) (at_list rfl) (by kernel_rfl) (by kernel_rfl) (by kernel_rfl) (fun _ _ _ h => h) (Or.inl ⟨by rfl, ?hy7003⟩) (by assumption) ?rest7003
        case hy7003 => intro w hSw; (try dsimp only at hSw); go_simp; try (with_reducible rfl)
        case rest7003 =>
        try simp only [Act.put, List.setIfInBounds_toArray, List.set_cons_zero, List.set_cons_succ]
        refine wpAnyH_take (i := 3) (v := ?v7004) (at_list rfl) (by kernel_rfl) (by kernel_rfl) (by kernel_rfl) (fun _ _ _ h => h) (Or.inl ⟨by rfl, ?hy7004⟩) (by assumption) ?rest7004
        case hy7004 => intro w hSw; (try dsimp only at hSw); go_simp; try (with_reducible rfl)
        case rest7004 =>
        try simp only [Act.put, List.setIfInBounds_toArray, List.set_cons_zero, List.set_cons_succ]
        refine wpAnyH_take (i := 4) (v := undef) (at_list rfl) (by kernel_rfl) (by kernel_rfl) (by kernel_rfl) (fun _ _ _ h => h) (Or.inr ⟨by rfl, rfl⟩) (by assumption) ?rest7005
        case rest7005 =>
        try simp only [Act.put, List.setIfInBounds_toArray, List.set_cons_zero, List.set_cons_succ]
        refine wpAnyH_take (i := 5) (v := undef) (at_list rfl) (by kernel_rfl) (by kernel_rfl) (by kernel_rfl) (fun _ _ _ h => h) (Or.inr ⟨by rfl, rfl⟩) (by assumption) ?rest7006
        case rest7006 =>
        try simp only [Act.put, List.setIfInBounds_toArray, List.set_cons_zero, List.set_cons_succ]
        refine wpAnyH_take (i := 6) (v := ?v7007) (at_list rfl) (by kernel_rfl) (by kernel_rfl) (by kernel_rfl) (fun _ _ _ h => h) (Or.inl ⟨by rfl, ?hy7007⟩) (by assumption) ?rest7007
        case hy7007 => intro w hSw; (try dsimp only at hSw); go_simp; try (with_reducible rfl)
        case rest7007 =>
        try simp only [Act.put, List.setIfInBounds_toArray, List.set_cons_zero, List.set_cons_succ]
        refine wpAnyH_take (i := 7) (v := ?v7008) (at_list rfl) (by kernel_rfl) (by kernel_rfl) (by kernel_rfl) (fun _ _ _ h => h) (Or.inl ⟨by rfl, ?hy7008⟩) (by assumption) ?rest7008
        case hy7008 => intro w hSw; (try dsimp only at hSw); go_simp; try (with_reducible rfl)
        case rest7008 =>
        try simp only [Act.put, List.setIfInBounds_toArray, List.set_cons_zero, List.set_cons_succ]
        refine wpAnyH_take (i := 8) (v := ?v7009) (at_list rfl) (by kernel_rfl) (by kernel_rfl) (by kernel_rfl) (fun _ _ _ h => h) (Or.inl ⟨by rfl, ?hy7009⟩) (by assumption) ?rest7009
        case hy7009 => intro w hSw; (try dsimp only at hSw); go_simp; try (with_reducible rfl)
        case rest7009 =>
        try simp only [Act.put, List.setIfInBounds_toArray, List.set_cons_zero, List.set_cons_succ]
        refine wpAnyH_take (i := 9) (v := ?v7010) (at_list rfl) (by kernel_rfl) (by kernel_rfl) (by kernel_rfl) (fun _ _ _ h => h) (Or.inl ⟨by rfl, ?hy7010⟩) (by assumption) ?rest7010
        case hy7010 => intro w hSw; (try dsimp only at hSw); go_simp; try (with_reducible rfl)
        case rest7010 =>
        try simp only [Act.put, List.setIfInBounds_toArray, List.set_cons_zero, List.set_cons_succ]
        refine wpAnyH_take (i := 10) (v := ?v7011) (at_list rfl) (by kernel_rfl) (by kernel_rfl) (by kernel_rfl) (fun _ _ _ h => h) (Or.inl ⟨by rfl, ?hy7011⟩) (by assumption) ?rest7011
        case hy7011 => intro w hSw; (try dsimp only at hSw); go_simp; try (with_reducible rfl)
        case rest7011 =>
        try simp only [Act.put, List.setIfInBounds_toArray, List.set_cons_zero, List.set_cons_succ]
        refine wpAnyH_take (i := 11) (v := ?v7012) (at_list rfl) (by kernel_rfl) (by kernel_rfl) (by kernel_rfl) (fun _ _ _ h => h) (Or.inl ⟨by rfl, ?hy7012⟩) (by assumption) ?rest7012
        case hy7012 => intro w hSw; (try dsimp only at hSw); go_simp; try (with_reducible rfl)
        case rest7012 =>
        try simp only [Act.put, List.setIfInBounds_toArray, List.set_cons_zero, List.set_cons_succ]
        refine wpAnyH_ready (rs := [12]) (by kernel_rfl) (by simp) ?_
        refine AllReadyH.cons (at_list rfl) (fun K hK => ?_) AllReadyH.nil
        go_simp
        go_at_call 6; refine (HGX.out _).mono ?_; rintro e w73 ⟨rfl, bw73⟩; have hBw73 : Bx (Below w58.heap.size w58 w73) := bx_to (by (first | with_reducible assumption | with_reducible exact bx_alloc (by with_reducible assumption) _ | with_reducible exact bx_drew (by with_reducible assumption) | with_reducible exact bx_drew (bx_alloc (by with_reducible assumption) _))) bw73; have hzw73 := bx_size hBw73; have kgx0_w73 := ((bcell hBw73.out).1 _ _ lt_gx).trans kgx0; have kgx1_w73 := ((bcell hBw73.out).1 _ _ lt_gx).trans kgx1; have kge0_w73 := ((bcell hBw73.out).1 _ _ lt_ge).trans kge0; have kge1_w73 := ((bcell hBw73.out).1 _ _ lt_ge).trans kge1
        refine hK.out _ _ ?hS7013 (fun hHeld => ?rest7013)
        case hS7013 => (try dsimp only); (refine (fun (hK : Bx (Below w58.heap.size w58 _)) => ⟨((bcell hK.out).1 _ _ lt_gx).trans kgx0, ((bcell hK.out).1 _ _ lt_gx).trans kgx1, ((bcell hK.out).1 _ _ lt_ge).trans kge0, ((bcell hK.out).1 _ _ lt_ge).trans kge1, hK⟩) ?_; (first | with_reducible assumption | with_reducible exact bx_alloc (by with_reducible assumption) _ | with_reducible exact bx_drew (by with_reducible assumption) | with_reducible exact bx_drew (bx_alloc (by with_reducible assumption) _)))
        case rest7013 =>
        clear hK K
        try simp only [Act.put, List.setIfInBounds_toArray, List.set_cons_zero, List.set_cons_succ]
        refine wpAnyH_take (i := 13) (v := ?v7014) (at_list rfl) (by kernel_rfl) (by kernel_rfl) (by kernel_rfl) (fun _ _ _ h => h) (Or.inl ⟨by rfl, ?hy7014⟩) (by assumption) ?rest7014
        case hy7014 => intro w hSw; (try dsimp only at hSw); go_simp; try (with_reducible rfl)
        case rest7014 =>
        try simp only [Act.put, List.setIfInBounds_toArray, List.set_cons_zero, List.set_cons_succ]
        refine wpAnyH_take (i := 14) (v := ?v7015) (at_list rfl) (by kernel_rfl) (by kernel_rfl) (by kernel_rfl) (fun _ _ _ h => h) (Or.inl ⟨by rfl, ?hy7015⟩) (by assumption) ?rest7015
        case hy7015 => intro w hSw; (try dsimp only at hSw); go_simp; try (with_reducible rfl)
        case rest7015 =>
        try simp only [Act.put, List.setIfInBounds_toArray, List.set_cons_zero, List.set_cons_succ]
        refine wpAnyH_take (i := 15) (v := ?v7016) (at_list rfl) (by kernel_rfl) (by kernel_rfl) (by kernel_rfl) (fun _ _ _ h => h) (Or.inl ⟨by rfl, ?hy7016⟩) (by assumption) ?rest7016
        case hy7016 => intro w hSw; (try dsimp only at hSw); go_simp; try (with_reducible rfl)
        case rest7016 =>
        try simp only [Act.put, List.setIfInBounds_toArray, List.set_cons_zero, List.set_cons_succ]
        refine wpAnyH_ready (rs := [16]) (by kernel_rfl) (by simp) ?_
        refine AllReadyH.cons (at_list rfl) (fun K hK => ?_) AllReadyH.nil
        go_simp
        go_at_call 13; refine (HIE.out _ _ _ (by exact HE.out.below (Bx.out (by (first | with_reducible assumption | with_reducible exact bx_alloc (by with_reducible assumption) _ | with_reducible exact bx_drew (by with_reducible assumption) | with_reducible exact bx_drew (bx_alloc (by with_reducible assumption) _)))))).mono ?_; rintro e w74 ⟨rfl, bw74⟩; have hBw74 : Bx (Below w58.heap.size w58 w74) := bx_to (by (first | with_reducible assumption | with_reducible exact bx_alloc (by with_reducible assumption) _ | with_reducible exact bx_drew (by with_reducible assumption) | with_reducible exact bx_drew (bx_alloc (by with_reducible assumption) _))) bw74; have hzw74 := bx_size hBw74; have kgx0_w74 := ((bcell hBw74.out).1 _ _ lt_gx).trans kgx0; have kgx1_w74 := ((bcell hBw74.out).1 _ _ lt_gx).trans kgx1; have kge0_w74 := ((bcell hBw74.out).1 _ _ lt_ge).trans kge0; have kge1_w74 := ((bcell hBw74.out).1 _ _ lt_ge).trans kge1
        refine hK.out _ _ ?hS7017 (fun hHeld => ?rest7017)
        case hS7017 => (try dsimp only); (refine (fun (hK : Bx (Below w58.heap.size w58 _)) => ⟨((bcell hK.out).1 _ _ lt_gx).trans kgx0, ((bcell hK.out).1 _ _ lt_gx).trans kgx1, ((bcell hK.out).1 _ _ lt_ge).trans kge0, ((bcell hK.out).1 _ _ lt_ge).trans kge1, hK⟩) ?_; (first | with_reducible assumption | with_reducible exact bx_alloc (by with_reducible assumption) _ | with_reducible exact bx_drew (by with_reducible assumption) | with_reducible exact bx_drew (bx_alloc (by with_reducible assumption) _)))
        case rest7017 =>
        clear hK K
        try simp only [Act.put, List.setIfInBounds_toArray, List.set_cons_zero, List.set_cons_succ]
        refine wpAnyH_take (i := 17) (v := ?v7018) (at_list rfl) (by kernel_rfl) (by kernel_rfl) (by kernel_rfl) (fun _ _ _ h => h) (Or.inl ⟨by rfl, ?hy7018⟩) (by assumption) ?rest7018
        case hy7018 => intro w hSw; (try dsimp only at hSw); go_simp; try (with_reducible rfl)
        case rest7018 =>
        try simp only [Act.put, List.setIfInBounds_toArray, List.set_cons_zero, List.set_cons_succ]
        refine wpAnyH_take (i := 18) (v := ?v7019) (at_list rfl) (by kernel_rfl) (by kernel_rfl) (by kernel_rfl) (fun _ _ _ h => h) (Or.inl ⟨by rfl, ?hy7019⟩) (by assumption) ?rest7019
        case hy7019 => intro w hSw; (try dsimp only at hSw); go_simp; try (with_reducible rfl)
        case rest7019 =>
        try simp only [Act.put, List.setIfInBounds_toArray, List.set_cons_zero, List.set_cons_succ]
        refine wpAnyH_take (i := 19) (v := ?v7020) (at_list rfl) (by kernel_rfl) (by kernel_rfl) (by kernel_rfl) (fun _ _ _ h => h) (Or.inl ⟨by rfl, ?hy7020⟩) (by assumption) ?rest7020
        case hy7020 => intro w hSw; (try dsimp only at hSw); go_simp; try (with_reducible rfl)
        case rest7020 =>
        try simp only [Act.put, List.setIfInBounds_toArray, List.set_cons_zero, List.set_cons_succ]
        refine wpAnyH_ready (rs := [20]) (by kernel_rfl) (by simp) ?_
        refine AllReadyH.cons (at_list rfl) (fun K hK => ?_) AllReadyH.nil
        go_simp
        refine hK.out _ _ ?hS7021 (fun hHeld => ?rest7021)
        case hS7021 => (try dsimp only); (refine (fun (hK : Bx (Below w58.heap.size w58 _)) => ⟨((bcell hK.out).1 _ _ lt_gx).trans kgx0, ((bcell hK.out).1 _ _ lt_gx).trans kgx1, ((bcell hK.out).1 _ _ lt_ge).trans kge0, ((bcell hK.out).1 _ _ lt_ge).trans kge1, hK⟩) ?_; (first | with_reducible assumption | with_reducible exact bx_alloc (by with_reducible assumption) _ | with_reducible exact bx_drew (by with_reducible assumption) | with_reducible exact bx_drew (bx_alloc (by with_reducible assumption) _)))
        case rest7021 =>
        clear hK K
        try simp only [Act.put, List.setIfInBounds_toArray, List.set_cons_zero, List.set_cons_succ]
        refine wpAnyH_take (i := 21) (v := ?v7022) (at_list rfl) (by kernel_rfl) (by kernel_rfl) (by kernel_rfl) (fun _ _ _ h => h) (Or.inl ⟨by rfl, ?hy7022⟩) (by assumption) ?rest7022
        case hy7022 => intro w hSw; (try dsimp only at hSw); go_simp; try (with_reducible rfl)
        case rest7022 =>
        try simp only [Act.put, List.setIfInBounds_toArray, List.set_cons_zero, List.set_cons_succ]
        refine wpAnyH_ready (rs := [22]) (by kernel_rfl) (by simp) ?_
        refine AllReadyH.cons (at_list rfl) (fun K hK => ?_) AllReadyH.nil
        go_simp
        go_at_call 21; refine (HTL.out _ _ _ (by exact gw_lit _)).mono ?_; rintro e w75 ⟨rfl, bw75⟩; have hBw75 : Bx (Below w58.heap.size w58 w75) := bx_to (by (first | with_reducible assumption | with_reducible exact bx_alloc (by with_reducible assumption) _ | with_reducible exact bx_drew (by with_reducible assumption) | with_reducible exact bx_drew (bx_alloc (by with_reducible assumption) _))) bw75; have hzw75 := bx_size hBw75; have kgx0_w75 := ((bcell hBw75.out).1 _ _ lt_gx).trans kgx0; have kgx1_w75 := ((bcell hBw75.out).1 _ _ lt_gx).trans kgx1; have kge0_w75 := ((bcell hBw75.out).1 _ _ lt_ge).trans kge0; have kge1_w75 := ((bcell hBw75.out).1 _ _ lt_ge).trans kge1
        refine hK.out _ _ ?hS7023 (fun hHeld => ?rest7023)
        case hS7023 => (try dsimp only); (refine (fun (hK : Bx (Below w58.heap.size w58 _)) => ⟨((bcell hK.out).1 _ _ lt_gx).trans kgx0, ((bcell hK.out).1 _ _ lt_gx).trans kgx1, ((bcell hK.out).1 _ _ lt_ge).trans kge0, ((bcell hK.out).1 _ _ lt_ge).trans kge1, hK⟩) ?_; (first | with_reducible assumption | with_reducible exact bx_alloc (by with_reducible assumption) _ | with_reducible exact bx_drew (by with_reducible assumption) | with_reducible exact bx_drew (bx_alloc (by with_reducible assumption) _)))
        case rest7023 =>
        clear hK K
        try simp only [Act.put, List.setIfInBounds_toArray, List.set_cons_zero, List.set_cons_succ]
        refine wpAnyH_take (i := 23) (v := ?v7024) (at_list rfl) (by kernel_rfl) (by kernel_rfl) (by kernel_rfl) (fun _ _ _ h => h) (Or.inl ⟨by rfl, ?hy7024⟩) (by assumption) ?rest7024
        case hy7024 => intro w hSw; (try dsimp only at hSw); go_simp; try (with_reducible rfl)
        case rest7024 =>
        try simp only [Act.put, List.setIfInBounds_toArray, List.set_cons_zero, List.set_cons_succ]
        refine wpAnyH_take (i := 24) (v := ?v7025) (at_list rfl) (by kernel_rfl) (by kernel_rfl) (by kernel_rfl) (fun _ _ _ h => h) (Or.inl ⟨by rfl, ?hy7025⟩) (by assumption) ?rest7025
        case hy7025 => intro w hSw; (try dsimp only at hSw); go_simp; try (with_reducible rfl)
        case rest7025 =>
        try simp only [Act.put, List.setIfInBounds_toArray, List.set_cons_zero, List.set_cons_succ]
        refine wpAnyH_take (i := 25) (v := ?v7026) (at_list rfl) (by kernel_rfl) (by kernel_rfl) (by kernel_rfl) (fun _ _ _ h => h) (Or.inl ⟨by rfl, ?hy7026⟩) (by assumption) ?rest7026
        case hy7026 => intro w hSw; (try dsimp only at hSw); go_simp; try (with_reducible rfl)
        case rest7026 =>
        try simp only [Act.put, List.setIfInBounds_toArray, List.set_cons_zero, List.set_cons_succ]
        refine wpAnyH_take (i := 27) (v := ?v7027) (at_list rfl) (by kernel_rfl) (by kernel_rfl) (by kernel_rfl) (fun _ _ _ h => h) (Or.inl ⟨by rfl, ?hy7027⟩) (by assumption) ?rest7027
        case hy7027 => intro w hSw; (try dsimp only at hSw); go_simp; try (with_reducible rfl)
        case rest7027 =>
        try simp only [Act.put, List.setIfInBounds_toArray, List.set_cons_zero, List.set_cons_succ]
        refine wpAnyH_ready (rs := [26]) (by kernel_rfl) (by simp) ?_
        refine AllReadyH.cons (at_list rfl) (fun K hK => ?_) AllReadyH.nil
        go_simp
        go_at_call 14; refine (HCX.out _ _ _ (by exact HX.out.below (Bx.out (by (first | with_reducible assumption | with_reducible exact bx_alloc (by with_reducible assumption) _ | with_reducible exact bx_drew (by with_reducible assumption) | with_reducible exact bx_drew (bx_alloc (by with_reducible assumption) _)))))).mono ?_; rintro e w76 ⟨rfl, bw76⟩; have hBw76 : Bx (Below w58.heap.size w58 w76) := bx_to (by (first | with_reducible assumption | with_reducible exact bx_alloc (by with_reducible assumption) _ | with_reducible exact bx_drew (by with_reducible assumption) | with_reducible exact bx_drew (bx_alloc (by with_reducible assumption) _))) bw76; have hzw76 := bx_size hBw76; have kgx0_w76 := ((bcell hBw76.out).1 _ _ lt_gx).trans kgx0; have kgx1_w76 := ((bcell hBw76.out).1 _ _ lt_gx).trans kgx1; have kge0_w76 := ((bcell hBw76.out).1 _ _ lt_ge).trans kge0; have kge1_w76 := ((bcell hBw76.out).1 _ _ lt_ge).trans kge1
        refine hK.out _ _ ?hS7028 (fun hHeld => ?rest7028)
        case hS7028 => (try dsimp only); (refine (fun (hK : Bx (Below w58.heap.size w58 _)) => ⟨((bcell hK.out).1 _ _ lt_gx).trans kgx0, ((bcell hK.out).1 _ _ lt_gx).trans kgx1, ((bcell hK.out).1 _ _ lt_ge).trans kge0, ((bcell hK.out).1 _ _ lt_ge).trans kge1, hK⟩) ?_; (first | with_reducible assumption | with_reducible exact bx_alloc (by with_reducible assumption) _ | with_reducible exact bx_drew (by with_reducible assumption) | with_reducible exact bx_drew (bx_alloc (by with_reducible assumption) _)))
        case rest7028 =>
        clear hK K
        try simp only [Act.put, List.setIfInBounds_toArray, List.set_cons_zero, List.set_cons_succ]
        refine wpAnyH_ready (rs := [28]) (by kernel_rfl) (by simp) ?_
        refine AllReadyH.cons (at_list rfl) (fun K hK => ?_) AllReadyH.nil
        go_simp
        go_at_call 22; refine (HSX.out _ _ _ (by exact HX.out.below (Bx.out (by (first | with_reducible assumption | with_reducible exact bx_alloc (by with_reducible assumption) _ | with_reducible exact bx_drew (by with_reducible assumption) | with_reducible exact bx_drew (bx_alloc (by with_reducible assumption) _)))))).mono ?_; rintro e w77 ⟨Bw77, dw77, rfl, bw77⟩; have hBw77 : Bx (Below w58.heap.size w58 w77) := bx_to (by (first | with_reducible assumption | with_reducible exact bx_alloc (by with_reducible assumption) _ | with_reducible exact bx_drew (by with_reducible assumption) | with_reducible exact bx_drew (bx_alloc (by with_reducible assumption) _))) bw77; have hzw77 := bx_size hBw77; have kgx0_w77 := ((bcell hBw77.out).1 _ _ lt_gx).trans kgx0; have kgx1_w77 := ((bcell hBw77.out).1 _ _ lt_gx).trans kgx1; have kge0_w77 := ((bcell hBw77.out).1 _ _ lt_ge).trans kge0; have kge1_w77 := ((bcell hBw77.out).1 _ _ lt_ge).trans kge1
        refine hK.out _ _ ?hS7029 (fun hHeld => ?rest7029)
        case hS7029 => (try dsimp only); (refine (fun (hK : Bx (Below w58.heap.size w58 _)) => ⟨((bcell hK.out).1 _ _ lt_gx).trans kgx0, ((bcell hK.out).1 _ _ lt_gx).trans kgx1, ((bcell hK.out).1 _ _ lt_ge).trans kge0, ((bcell hK.out).1 _ _ lt_ge).trans kge1, hK⟩) ?_; (first | with_reducible assumption | with_reducible exact bx_alloc (by with_reducible assumption) _ | with_reducible exact bx_drew (by with_reducible assumption) | with_reducible exact bx_drew (bx_alloc (by with_reducible assumption) _)))
        case rest7029 =>
        clear hK K
        try simp only [Act.put, List.setIfInBounds_toArray, List.set_cons_zero, List.set_cons_succ]
        refine wpAnyH_take (i := 29) (v := ?v7030) (at_list rfl) (by kernel_rfl) (by kernel_rfl) (by kernel_rfl) (fun _ _ _ h => h) (Or.inl ⟨by rfl, ?hy7030⟩) (by assumption) ?rest7030
        case hy7030 => intro w hSw; (try dsimp only at hSw); go_simp; try (with_reducible rfl)
        case rest7030 =>
        try simp only [Act.put, List.setIfInBounds_toArray, List.set_cons_zero, List.set_cons_succ]
        refine wpAnyH_take (i := 30) (v := ?v7031) (at_list rfl) (by kernel_rfl) (by kernel_rfl) (by kernel_rfl) (fun _ _ _ h => h) (Or.inl ⟨by rfl, ?hy7031⟩) (by assumption) ?rest7031
        case hy7031 => intro w hSw; (try dsimp only at hSw); go_simp; try (with_reducible rfl)
        case rest7031 =>
        try simp only [Act.put, List.setIfInBounds_toArray, List.set_cons_zero, List.set_cons_succ]
        refine wpAnyH_take (i := 31) (v := ?v7032) (at_list rfl) (by kernel_rfl) (by kernel_rfl) (by kernel_rfl) (fun _ _ _ h => h) (Or.inl ⟨by rfl, ?hy7032⟩) (by assumption) ?rest7032
        case hy7032 => intro w hSw; (try dsimp only at hSw); go_simp; try (with_reducible rfl)
        case rest7032 =>
        try simp only [Act.put, List.setIfInBounds_toArray, List.set_cons_zero, List.set_cons_succ]
        refine wpAnyH_ready (rs := [32]) (by kernel_rfl) (by simp) ?_
        refine AllReadyH.cons (at_list rfl) (fun K hK => ?_) AllReadyH.nil
        go_simp
        refine hK.out _ _ ?hS7033 (fun hHeld => ?rest7033)
        case hS7033 => (try dsimp only); (refine (fun (hK : Bx (Below w58.heap.size w58 _)) => ⟨((bcell hK.out).1 _ _ lt_gx).trans kgx0, ((bcell hK.out).1 _ _ lt_gx).trans kgx1, ((bcell hK.out).1 _ _ lt_ge).trans kge0, ((bcell hK.out).1 _ _ lt_ge).trans kge1, hK⟩) ?_; (first | with_reducible assumption | with_reducible exact bx_alloc (by with_reducible assumption) _ | with_reducible exact bx_drew (by with_reducible assumption) | with_reducible exact bx_drew (bx_alloc (by with_reducible assumption) _)))
        case rest7033 =>
        clear hK K
        try simp only [Act.put, List.setIfInBounds_toArray, List.set_cons_zero, List.set_cons_succ]
        refine wpAnyH_done (by kernel_rfl) ?_ _
        have b := hBw77.out
        replace kgr0 := ((bcell b).1 _ _ lt_gr).trans kgr0
        replace kgr1 := ((bcell b).1 _ _ lt_gr).trans kgr1
        replace kgx0 := ((bcell b).1 _ _ lt_gx).trans kgx0
        replace kgx1 := ((bcell b).1 _ _ lt_gx).trans kgx1
        replace kge0 := ((bcell b).1 _ _ lt_ge).trans kge0
        replace kge1 := ((bcell b).1 _ _ lt_ge).trans kge1
        replace lt_gr := Nat.lt_of_lt_of_le lt_gr b.size
        replace lt_gx := Nat.lt_of_lt_of_le lt_gx b.size
        replace lt_ge := Nat.lt_of_lt_of_le lt_ge b.size
        replace HX := Bx.mk (HX.out.below b)
        replace HE := Bx.mk (HE.out.below b)
        replace HB := Bx.mk (HB.out.below b)
        replace bw := bw.trans (b.mono bw.size)
        clear b
        go_wp2_with fail
        go_ret
        exact ⟨rfl, bw⟩
      · skip
        have hgb : ((gx2 : Int) != 1) = true := by rw [bne_iff_ne]; omega
        clear HEI hg1
        have hB : Bx (Below w58.heap.size w58 w58.drew) := ⟨(Below.refl _ _).drew⟩
        have hB0 : Bx (Below w58.heap.size w58 w58) := ⟨Below.refl _ _⟩
        have kgx0_d : w58.drew.cell? _ = _ := kgx0
        have kgx1_d : w58.drew.cell? _ = _ := kgx1
        have kge0_d : w58.drew.cell? _ = _ := kge0
        have kge1_d : w58.drew.cell? _ = _ := kge1
        refine wp_region_held_drew (S := fun w' => w'.cell? ⟨gx, 0, none⟩ = some (.int .i64 n) ∧ w'.cell? ⟨gx, 1, none⟩ = some (.slice Ax x.length cx) ∧ w'.cell? ⟨ge, 0, none⟩ = some (.int .i64 n) ∧ w'.cell? ⟨ge, 1, none⟩ = some (.slice AE E.length cE) ∧ Bx (Below w58.heap.size w58 w')) (by kernel_rfl) ?hS8000 (fun hHeld => ?rest8000)
        case hS8000 => (try dsimp only); (refine (fun (hK : Bx (Below w58.heap.size w58 _)) => ⟨((bcell hK.out).1 _ _ lt_gx).trans kgx0, ((bcell hK.out).1 _ _ lt_gx).trans kgx1, ((bcell hK.out).1 _ _ lt_ge).trans kge0, ((bcell hK.out).1 _ _ lt_ge).trans kge1, hK⟩) ?_; (first | with_reducible assumption | with_reducible exact bx_alloc (by with_reducible assumption) _ | with_reducible exact bx_drew (by with_reducible assumption) | with_reducible exact bx_drew (bx_alloc (by with_reducible assumption) _)))
        case rest8000 =>
        refine wpAnyH_take (i := 0) (v := ?v8001) (at_list rfl) (by kernel_rfl) (by kernel_rfl) (by kernel_rfl) (fun _ _ _ h => h) (Or.inl ⟨by rfl, ?hy8001⟩) (by assumption) ?rest8001
        case hy8001 => intro w hSw; (try dsimp only at hSw); go_simp; try (with_reducible rfl)
        case rest8001 =>
        try simp only [Act.put, List.setIfInBounds_toArray, List.set_cons_zero, List.set_cons_succ]
        refine wpAnyH_ready (rs := [1]) (by kernel_rfl) (by simp) ?_
        refine AllReadyH.cons (at_list rfl) (fun K hK => ?_) AllReadyH.nil
        go_simp
        go_at_call 21; refine (HTX.out _ _ _ (by exact HX.out.below (Bx.out (by (first | with_reducible assumption | with_reducible exact bx_alloc (by with_reducible assumption) _ | with_reducible exact bx_drew (by with_reducible assumption) | with_reducible exact bx_drew (bx_alloc (by with_reducible assumption) _)))))).mono ?_; rintro e w78 ⟨rfl, bw78⟩; have hBw78 : Bx (Below w58.heap.size w58 w78) := bx_to (by (first | with_reducible assumption | with_reducible exact bx_alloc (by with_reducible assumption) _ | with_reducible exact bx_drew (by with_reducible assumption) | with_reducible exact bx_drew (bx_alloc (by with_reducible assumption) _))) bw78; have hzw78 := bx_size hBw78; have kgx0_w78 := ((bcell hBw78.out).1 _ _ lt_gx).trans kgx0; have kgx1_w78 := ((bcell hBw78.out).1 _ _ lt_gx).trans kgx1; have kge0_w78 := ((bcell hBw78.out).1 _ _ lt_ge).trans kge0; have kge1_w78 := ((bcell hBw78.out).1 _ _ lt_ge).trans kge1
        refine hK.out _ _ ?hS8002 (fun hHeld => ?rest8002)
        case hS8002 => (try dsimp only); (refine (fun (hK : Bx (Below w58.heap.size w58 _)) => ⟨((bcell hK.out).1 _ _ lt_gx).trans kgx0, ((bcell hK.out).1 _ _ lt_gx).trans kgx1, ((bcell hK.out).1 _ _ lt_ge).trans kge0, ((bcell hK.out).1 _ _ lt_ge).trans kge1, hK⟩) ?_; (first | with_reducible assumption | with_reducible exact bx_alloc (by with_reducible assumption) _ | with_reducible exact bx_drew (by with_reducible assumption) | with_reducible exact bx_drew (bx_alloc (by with_reducible assumption) _)))
        case rest8002 =>
        clear hK K
        try simp only [Act.put, List.setIfInBounds_toArray, List.set_cons_zero, List.set_cons_succ]
        refine wpAnyH_take (i := 2) (v := ?v8003) (at_list rfl) (by kernel_rfl) (by kernel_rfl) (by kernel_rfl) (fun _ _ _ h => h) (Or.inl ⟨by rfl, ?hy8003⟩) (by assumption) ?rest8003
        case hy8003 => intro w hSw; (try dsimp only at hSw); go_simp; try (with_reducible rfl)
        case rest8003 =>
        try simp only [Act.put, List.setIfInBounds_toArray, List.set_cons_zero, List.set_cons_succ]
        refine wpAnyH_take (i := 3) (v := ?v8004) (at_list rfl) (by kernel_rfl) (by kernel_rfl) (by kernel_rfl) (fun _ _ _ h => h) (Or.inl ⟨by rfl, ?hy8004⟩) (by assumption) ?rest8004
        case hy8004 => intro w hSw; (try dsimp only at hSw); go_simp; try (with_reducible rfl)
        case rest8004 =>
        try simp only [Act.put, List.setIfInBounds_toArray, List.set_cons_zero, List.set_cons_succ]
        refine wpAnyH_take (i := 4) (v := undef) (at_list rfl) (by kernel_rfl) (by kernel_rfl) (by kernel_rfl) (fun _ _ _ h => h) (Or.inr ⟨by rfl, rfl⟩) (by assumption) ?rest8005
        case rest8005 =>
        try simp only [Act.put, List.setIfInBounds_toArray, List.set_cons_zero, List.set_cons_succ]
        refine wpAnyH_take (i := 5) (v := undef) (at_list rfl) (by kernel_rfl) (by kernel_rfl) (by kernel_rfl) (fun _ _ _ h => h) (Or.inr ⟨by rfl, rfl⟩) (by assumption) ?rest8006
        case rest8006 =>
        try simp only [Act.put, List.setIfInBounds_toArray, List.set_cons_zero, List.set_cons_succ]
        refine wpAnyH_take (i := 6) (v := ?v8007) (at_list rfl) (by kernel_rfl) (by kernel_rfl) (by kernel_rfl) (fun _ _ _ h => h) (Or.inl ⟨by rfl, ?hy8007⟩) (by assumption) ?rest8007
        case hy8007 => intro w hSw; (try dsimp only at hSw); go_simp; try (with_reducible rfl)
        case rest8007 =>
        try simp only [Act.put, List.setIfInBounds_toArray, List.set_cons_zero, List.set_cons_succ]
        refine wpAnyH_take (i := 7) (v := ?v8008) (at_list rfl) (by kernel_rfl) (by kernel_rfl) (by kernel_rfl) (fun _ _ _ h => h) (Or.inl ⟨by rfl, ?hy8008⟩) (by assumption) ?rest8008
        case hy8008 => intro w hSw; (try dsimp only at hSw); go_simp; try (with_reducible rfl)
        case rest8008 =>
        try simp only [Act.put, List.setIfInBounds_toArray, List.set_cons_zero, List.set_cons_succ]
        refine wpAnyH_take (i := 8) (v := ?v8009) (at_list rfl) (by kernel_rfl) (by kernel_rfl) (by kernel_rfl) (fun _ _ _ h => h) (Or.inl ⟨by rfl, ?hy8009⟩) (by assumption) ?rest8009
        case hy8009 => intro w hSw; (try dsimp only at hSw); go_simp; try (with_reducible rfl)
        case rest8009 =>
        try simp only [Act.put, List.setIfInBounds_toArray, List.set_cons_zero, List.set_cons_succ]
        refine wpAnyH_take (i := 9) (v := ?v8010) (at_list rfl) (by kernel_rfl) (by kernel_rfl) (by kernel_rfl) (fun _ _ _ h => h) (Or.inl ⟨by rfl, ?hy8010⟩) (by assumption) ?rest8010
        case hy8010 => intro w hSw; (try dsimp only at hSw); go_simp; try (with_reducible rfl)
        case rest8010 =>
        try simp only [Act.put, List.setIfInBounds_toArray, List.set_cons_zero, List.set_cons_succ]
        refine wpAnyH_take (i := 10) (v := ?v8011) (at_list rfl) (by kernel_rfl) (by kernel_rfl) (by kernel_rfl) (fun _ _ _ h => h) (Or.inl ⟨by rfl, ?hy8011⟩) (by assumption) ?rest8011
        case hy8011 => intro w hSw; (try dsimp only at hSw); go_simp; try (with_reducible rfl)
        case rest8011 =>
        try simp only [Act.put, List.setIfInBounds_toArray, List.set_cons_zero, List.set_cons_succ]
        refine wpAnyH_take (i := 11) (v := ?v8012) (at_list rfl) (by kernel_rfl) (by kernel_rfl) (by kernel_rfl) (fun _ _ _ h => h) (Or.inl ⟨by rfl, ?hy8012⟩) (by assumption) ?rest8012
        case hy8012 => intro w hSw; (try dsimp only at hSw); go_simp; try (with_reducible rfl)
        case rest8012 =>
        try simp only [Act.put, List.setIfInBounds_toArray, List.set_cons_zero, List.set_cons_succ]
        refine wpAnyH_ready (rs := [12]) (by kernel_rfl) (by simp) ?_
        refine AllReadyH.cons (at_list rfl) (fun K hK => ?_) AllReadyH.nil
        go_simp
        go_at_call 6; refine (HGX.out _).mono ?_; rintro e w79 ⟨rfl, bw79⟩; have hBw79 : Bx (Below w58.heap.size w58 w79) := bx_to (by (first | with_reducible assumption | with_reducible exact bx_alloc (by with_reducible assumption) _ | with_reducible exact bx_drew (by with_reducible assumption) | with_reducible exact bx_drew (bx_alloc (by with_reducible assumption) _))) bw79; have hzw79 := bx_size hBw79; have kgx0_w79 := ((bcell hBw79.out).1 _ _ lt_gx).trans kgx0; have kgx1_w79 := ((bcell hBw79.out).1 _ _ lt_gx).trans kgx1; have kge0_w79 := ((bcell hBw79.out).1 _ _ lt_ge).trans kge0; have kge1_w79 := ((bcell hBw79.out).1 _ _ lt_ge).trans kge1
        refine hK.out _ _ ?hS8013 (fun hHeld => ?rest8013)
        case hS8013 => (try dsimp only); (refine (fun (hK : Bx (Below w58.heap.size w58 _)) => ⟨((bcell hK.out).1 _ _ lt_gx).trans kgx0, ((bcell hK.out).1 _ _ lt_gx).trans kgx1, ((bcell hK.out).1 _ _ lt_ge).trans kge0, ((bcell hK.out).1 _ _ lt_ge).trans kge1, hK⟩) ?_; (first | with_reducible assumption | with_reducible exact bx_alloc (by with_reducible assumption) _ | with_reducible exact bx_drew (by with_reducible assumption) | with_reducible exact bx_drew (bx_alloc (by with_reducible assumption) _)))
        case rest8013 =>
        clear hK K
        try simp only [Act.put, List.setIfInBounds_toArray, List.set_cons_zero, List.set_cons_succ]
        refine wpAnyH_take (i := 13) (v := ?v8014) (at_list rfl) (by kernel_rfl) (by kernel_rfl) (by kernel_rfl) (fun _ _ _ h => h) (Or.inl ⟨by rfl, ?hy8014⟩) (by assumption) ?rest8014
        case hy8014 => intro w hSw; (try dsimp only at hSw); go_simp; try (with_reducible rfl)
        case rest8014 =>
        try simp only [Act.put, List.setIfInBounds_toArray, List.set_cons_zero, List.set_cons_succ]
        refine wpAnyH_take (i := 14) (v := ?v8015) (at_list rfl) (by kernel_rfl) (by kernel_rfl) (by kernel_rfl) (fun _ _ _ h => h) (Or.inl ⟨by rfl, ?hy8015⟩) (by assumption) ?rest8015
        case hy8015 => intro w hSw; (try dsimp only at hSw); go_simp; try (with_reducible rfl)
        case rest8015 =>
        try simp only [Act.put, List.setIfInBounds_toArray, List.set_cons_zero, List.set_cons_succ]
        refine wpAnyH_take (i := 15) (v := undef) (at_list rfl) (by kernel_rfl) (by kernel_rfl) (by kernel_rfl) (fun _ _ _ h => h) (Or.inr ⟨by rfl, rfl⟩) (by assumption) ?rest8016
        case rest8016 =>
        try simp only [Act.put, List.setIfInBounds_toArray, List.set_cons_zero, List.set_cons_succ]
        refine wpAnyH_take (i := 16) (v := undef) (at_list rfl) (by kernel_rfl) (by kernel_rfl) (by kernel_rfl) (fun _ _ _ h => h) (Or.inr ⟨by rfl, rfl⟩) (by assumption) ?rest8017
        case rest8017 =>
        try simp only [Act.put, List.setIfInBounds_toArray, List.set_cons_zero, List.set_cons_succ]
        refine wpAnyH_take (i := 17) (v := ?v8018) (at_list rfl) (by kernel_rfl) (by kernel_rfl) (by kernel_rfl) (fun _ _ _ h => h) (Or.inl ⟨by rfl, ?hy8018⟩) (by assumption) ?rest8018
        case hy8018 => intro w hSw; (try dsimp only at hSw); go_simp; try (with_reducible rfl)
        case rest8018 =>
        try simp only [Act.put, List.setIfInBounds_toArray, List.set_cons_zero, List.set_cons_succ]
        refine wpAnyH_take (i := 18) (v := ?v8019) (at_list rfl) (by kernel_rfl) (by kernel_rfl) (by kernel_rfl) (fun _ _ _ h => h) (Or.inl ⟨by rfl, ?hy8019⟩) (by assumption) ?rest8019
        case hy8019 => intro w hSw; (try dsimp only at hSw); go_simp; try (with_reducible rfl)
        case rest8019 =>
        try simp only [Act.put, List.setIfInBounds_toArray, List.set_cons_zero, List.set_cons_succ]
        refine wpAnyH_take (i := 19) (v := ?v8020) (at_list rfl) (by kernel_rfl) (by kernel_rfl) (by kernel_rfl) (fun _ _ _ h => h) (Or.inl ⟨by rfl, ?hy8020⟩) (by assumption) ?rest8020
        case hy8020 => intro w hSw; (try dsimp only at hSw); go_simp; try (with_reducible rfl)
        case rest8020 =>
        try simp only [Act.put, List.setIfInBounds_toArray, List.set_cons_zero, List.set_cons_succ]
        refine wpAnyH_ready (rs := [20]) (by kernel_rfl) (by simp) ?_
        refine AllReadyH.cons (at_list rfl) (fun K hK => ?_) AllReadyH.nil
        go_simp
        refine hK.out _ _ ?hS8021 (fun hHeld => ?rest8021)
        case hS8021 => (try dsimp only); (refine (fun (hK : Bx (Below w58.heap.size w58 _)) => ⟨((bcell hK.out).1 _ _ lt_gx).trans kgx0, ((bcell hK.out).1 _ _ lt_gx).trans kgx1, ((bcell hK.out).1 _ _ lt_ge).trans kge0, ((bcell hK.out).1 _ _ lt_ge).trans kge1, hK⟩) ?_; (first | with_reducible assumption | with_reducible exact bx_alloc (by with_reducible assumption) _ | with_reducible exact bx_drew (by with_reducible assumption) | with_reducible exact bx_drew (bx_alloc (by with_reducible assumption) _)))
        case rest8021 =>
        clear hK K
        try simp only [Act.put, List.setIfInBounds_toArray, List.set_cons_zero, List.set_cons_succ]
        refine wpAnyH_take (i := 21) (v := ?v8022) (at_list rfl) (by kernel_rfl) (by kernel_rfl) (by kernel_rfl) (fun _ _ _ h => h) (Or.inl ⟨by rfl, ?hy8022⟩) (by assumption) ?rest8022
        case hy8022 => intro w hSw; (try dsimp only at hSw); go_simp; try (with_reducible rfl)
        case rest8022 =>
        try simp only [Act.put, List.setIfInBounds_toArray, List.set_cons_zero, List.set_cons_succ]
        refine wpAnyH_ready (rs := [22]) (by kernel_rfl) (by simp) ?_
        refine AllReadyH.cons (at_list rfl) (fun K hK => ?_) AllReadyH.nil
        go_simp
        go_at_call 21; refine (HTL.out _ _ _ (by exact gw_lit _)).mono ?_; rintro e w80 ⟨rfl, bw80⟩; have hBw80 : Bx (Below w58.heap.size w58 w80) := bx_to (by (first | with_reducible assumption | with_reducible exact bx_alloc (by with_reducible assumption) _ | with_reducible exact bx_drew (by with_reducible assumption) | with_reducible exact bx_drew (bx_alloc (by with_reducible assumption) _))) bw80; have hzw80 := bx_size hBw80; have kgx0_w80 := ((bcell hBw80.out).1 _ _ lt_gx).trans kgx0; have kgx1_w80 := ((bcell hBw80.out).1 _ _ lt_gx).trans kgx1; have kge0_w80 := ((bcell hBw80.out).1 _ _ lt_ge).trans kge0; have kge1_w80 := ((bcell hBw80.out).1 _ _ lt_ge).trans kge1
        refine hK.out _ _ ?hS8023 (fun hHeld => ?rest8023)
        case hS8023 => (try dsimp only); (refine (fun (hK : Bx (Below w58.heap.size w58 _)) => ⟨((bcell hK.out).1 _ _ lt_gx).trans kgx0, ((bcell hK.out).1 _ _ lt_gx).trans kgx1, ((bcell hK.out).1 _ _ lt_ge).trans kge0, ((bcell hK.out).1 _ _ lt_ge).trans kge1, hK⟩) ?_; (first | with_reducible assumption | with_reducible exact bx_alloc (by with_reducible assumption) _ | with_reducible exact bx_drew (by with_reducible assumption) | with_reducible exact bx_drew (bx_alloc (by with_reducible assumption) _)))
        case rest8023 =>
        clear hK K
        try simp only [Act.put, List.setIfInBounds_toArray, List.set_cons_zero, List.set_cons_succ]
        refine wpAnyH_take (i := 23) (v := ?v8024) (at_list rfl) (by kernel_rfl) (by kernel_rfl) (by kernel_rfl) (fun _ _ _ h => h) (Or.inl ⟨by rfl, ?hy8024⟩) (by assumption) ?rest8024
        case hy8024 => intro w hSw; (try dsimp only at hSw); go_simp; try (with_reducible rfl)
        case rest8024 =>
        try simp only [Act.put, List.setIfInBounds_toArray, List.set_cons_zero, List.set_cons_succ]
        refine wpAnyH_take (i := 24) (v := ?v8025) (at_list rfl) (by kernel_rfl) (by kernel_rfl) (by kernel_rfl) (fun _ _ _ h => h) (Or.inl ⟨by rfl, ?hy8025⟩) (by assumption) ?rest8025
        case hy8025 => intro w hSw; (try dsimp only at hSw); go_simp; try (with_reducible rfl)
        case rest8025 =>
        try simp only [Act.put, List.setIfInBounds_toArray, List.set_cons_zero, List.set_cons_succ]
        refine wpAnyH_take (i := 25) (v := ?v8026) (at_list rfl) (by kernel_rfl) (by kernel_rfl) (by kernel_rfl) (fun _ _ _ h => h) (Or.inl ⟨by rfl, ?hy8026⟩) (by assumption) ?rest8026
        case hy8026 => intro w hSw; (try dsimp only at hSw); go_simp; try (with_reducible rfl)
        case rest8026 =>
        try simp only [Act.put, List.setIfInBounds_toArray, List.set_cons_zero, List.set_cons_succ]
        refine wpAnyH_take (i := 27) (v := ?v8027) (at_list rfl) (by kernel_rfl) (by kernel_rfl) (by kernel_rfl) (fun _ _ _ h => h) (Or.inl ⟨by rfl, ?hy8027⟩) (by assumption) ?rest8027
        case hy8027 => intro w hSw; (try dsimp only at hSw); go_simp; try (with_reducible rfl)
        case rest8027 =>
        try simp only [Act.put, List.setIfInBounds_toArray, List.set_cons_zero, List.set_cons_succ]
        refine wpAnyH_ready (rs := [26]) (by kernel_rfl) (by simp) ?_
        refine AllReadyH.cons (at_list rfl) (fun K hK => ?_) AllReadyH.nil
        go_simp
        go_at_call 14; refine (HCX.out _ _ _ (by exact HX.out.below (Bx.out (by (first | with_reducible assumption | with_reducible exact bx_alloc (by with_reducible assumption) _ | with_reducible exact bx_drew (by with_reducible assumption) | with_reducible exact bx_drew (bx_alloc (by with_reducible assumption) _)))))).mono ?_; rintro e w81 ⟨rfl, bw81⟩; have hBw81 : Bx (Below w58.heap.size w58 w81) := bx_to (by (first | with_reducible assumption | with_reducible exact bx_alloc (by with_reducible assumption) _ | with_reducible exact bx_drew (by with_reducible assumption) | with_reducible exact bx_drew (bx_alloc (by with_reducible assumption) _))) bw81; have hzw81 := bx_size hBw81; have kgx0_w81 := ((bcell hBw81.out).1 _ _ lt_gx).trans kgx0; have kgx1_w81 := ((bcell hBw81.out).1 _ _ lt_gx).trans kgx1; have kge0_w81 := ((bcell hBw81.out).1 _ _ lt_ge).trans kge0; have kge1_w81 := ((bcell hBw81.out).1 _ _ lt_ge).trans kge1
        refine hK.out _ _ ?hS8028 (fun hHeld => ?rest8028)
        case hS8028 => (try dsimp only); (refine (fun (hK : Bx (Below w58.heap.size w58 _)) => ⟨((bcell hK.out).1 _ _ lt_gx).trans kgx0, ((bcell hK.out).1 _ _ lt_gx).trans kgx1, ((bcell hK.out).1 _ _ lt_ge).trans kge0, ((bcell hK.out).1 _ _ lt_ge).trans kge1, hK⟩) ?_; (first | with_reducible assumption | with_reducible exact bx_alloc (by with_reducible assumption) _ | with_reducible exact bx_drew (by with_reducible assumption) | with_reducible exact bx_drew (bx_alloc (by with_reducible assumption) _)))
        case rest8028 =>
        clear hK K
        try simp only [Act.put, List.setIfInBounds_toArray, List.set_cons_zero, List.set_cons_succ]
        refine wpAnyH_ready (rs := [28]) (by kernel_rfl) (by simp) ?_
        refine AllReadyH.cons (at_list rfl) (fun K hK => ?_) AllReadyH.nil
        go_simp
        go_at_call 22; refine (HSX.out _ _ _ (by exact HX.out.below (Bx.out (by (first | with_reducible assumption | with_reducible exact bx_alloc (by with_reducible assumption) _ | with_reducible exact bx_drew (by with_reducible assumption) | with_reducible exact bx_drew (bx_alloc (by with_reducible assumption) _)))))).mono ?_; rintro e w82 ⟨Bw82, dw82, rfl, bw82⟩; have hBw82 : Bx (Below w58.heap.size w58 w82) := bx_to (by (first | with_reducible assumption | with_reducible exact bx_alloc (by with_reducible assumption) _ | with_reducible exact bx_drew (by with_reducible assumption) | with_reducible exact bx_drew (bx_alloc (by with_reducible assumption) _))) bw82; have hzw82 := bx_size hBw82; have kgx0_w82 := ((bcell hBw82.out).1 _ _ lt_gx).trans kgx0; have kgx1_w82 := ((bcell hBw82.out).1 _ _ lt_gx).trans kgx1; have kge0_w82 := ((bcell hBw82.out).1 _ _ lt_ge).trans kge0; have kge1_w82 := ((bcell hBw82.out).1 _ _ lt_ge).trans kge1
        refine hK.out _ _ ?hS8029 (fun hHeld => ?rest8029)
        case hS8029 => (try dsimp only); (refine (fun (hK : Bx (Below w58.heap.size w58 _)) => ⟨((bcell hK.out).1 _ _ lt_gx).trans kgx0, ((bcell hK.out).1 _ _ lt_gx).trans kgx1, ((bcell hK.out).1 _ _ lt_ge).trans kge0, ((bcell hK.out).1 _ _ lt_ge).trans kge1, hK⟩) ?_; (first | with_reducible assumption | with_reducible exact bx_alloc (by with_reducible assumption) _ | with_reducible exact bx_drew (by with_reducible assumption) | with_reducible exact bx_drew (bx_alloc (by with_reducible assumption) _)))
        case rest8029 =>
        clear hK K
        try simp only [Act.put, List.setIfInBounds_toArray, List.set_cons_zero, List.set_cons_succ]
        refine wpAnyH_take (i := 29) (v := ?v8030) (at_list rfl) (by kernel_rfl) (by kernel_rfl) (by kernel_rfl) (fun _ _ _ h => h) (Or.inl ⟨by rfl, ?hy8030⟩) (by assumption) ?rest8030
        case hy8030 => intro w hSw; (try dsimp only at hSw); go_simp; try (with_reducible rfl)
        case rest8030 =>
        try simp only [Act.put, List.setIfInBounds_toArray, List.set_cons_zero, List.set_cons_succ]
        refine wpAnyH_take (i := 30) (v := ?v8031) (at_list rfl) (by kernel_rfl) (by kernel_rfl) (by kernel_rfl) (fun _ _ _ h => h) (Or.inl ⟨by rfl, ?hy8031⟩) (by assumption) ?rest8031
        case hy8031 => intro w hSw; (try dsimp only at hSw); go_simp; try (with_reducible rfl)
        case rest8031 =>
        try simp only [Act.put, List.setIfInBounds_toArray, List.set_cons_zero, List.set_cons_succ]
        refine wpAnyH_take (i := 31) (v := ?v8032) (at_list rfl) (by kernel_rfl) (by kernel_rfl) (by kernel_rfl) (fun _ _ _ h => h) (Or.inl ⟨by rfl, ?hy8032⟩) (by assumption) ?rest8032
        case hy8032 => intro w hSw; (try dsimp only at hSw); go_simp; try (with_reducible rfl)
        case rest8032 =>
        try simp only [Act.put, List.setIfInBounds_toArray, List.set_cons_zero, List.set_cons_succ]
        refine wpAnyH_ready (rs := [32]) (by kernel_rfl) (by simp) ?_
        refine AllReadyH.cons (at_list rfl) (fun K hK => ?_) AllReadyH.nil
        go_simp
        refine hK.out _ _ ?hS8033 (fun hHeld => ?rest8033)
        case hS8033 => (try dsimp only); (refine (fun (hK : Bx (Below w58.heap.size w58 _)) => ⟨((bcell hK.out).1 _ _ lt_gx).trans kgx0, ((bcell hK.out).1 _ _ lt_gx).trans kgx1, ((bcell hK.out).1 _ _ lt_ge).trans kge0, ((bcell hK.out).1 _ _ lt_ge).trans kge1, hK⟩) ?_; (first | with_reducible assumption | with_reducible exact bx_alloc (by with_reducible assumption) _ | with_reducible exact bx_drew (by with_reducible assumption) | with_reducible exact bx_drew (bx_alloc (by with_reducible assumption) _)))
        case rest8033 =>
        clear hK K
        try simp only [Act.put, List.setIfInBounds_toArray, List.set_cons_zero, List.set_cons_succ]
        refine wpAnyH_done (by kernel_rfl) ?_ _
        have b := hBw82.out
        replace kgr0 := ((bcell b).1 _ _ lt_gr).trans kgr0
        replace kgr1 := ((bcell b).1 _ _ lt_gr).trans kgr1
        replace kgx0 := ((bcell b).1 _ _ lt_gx).trans kgx0
        replace kgx1 := ((bcell b).1 _ _ lt_gx).trans kgx1
        replace kge0 := ((bcell b).1 _ _ lt_ge).trans kge0
        replace kge1 := ((bcell b).1 _ _ lt_ge).trans kge1
        replace lt_gr := Nat.lt_of_lt_of_le lt_gr b.size
        replace lt_gx := Nat.lt_of_lt_of_le lt_gx b.size
        replace lt_ge := Nat.lt_of_lt_of_le lt_ge b.size
        replace HX := Bx.mk (HX.out.below b)
        replace HE := Bx.mk (HE.out.below b)
        replace HB := Bx.mk (HB.out.below b)
        replace bw := bw.trans (b.mono bw.size)
        clear b
        go_wp2_with fail
        go_ret
        exact ⟨rfl, bw⟩
end Go.Proofs.Ytpejnhcmelkmeaa
