/- Differences of beats, and small functions on valid rhythms, walked. -/
import Derived.Test.YtlgiijibekobfaaTls
import Derived.Test.YtlgiijibekobfaaIvPl2
import Derived.Test.YtlgiijibekobfaaBas
import Derived.Test.YtlgiijibekobfaaRot
import Derived.Test.YtlgiijibekobfaaLawCn
import Derived.Test.YtlgiijibekobfaaPer
namespace Go.Proofs.Ytlgiijibekobfaa
open Go.RowKit

theorem two_bd2 {s : Int} {xs ys : List Int} (h2 : xs.length ≤ 24) (h3 : ys.length ≤ 24) (a b : Nat) (ha : a < xs.length) (hb : b < ys.length) (i : Nat) (y : Int)
    (h : (inC s (xs[a]?.getD 0) ys (outC s xs ys a) b)[i]? = some y) : 0 ≤ y ∧ y ≤ 1000 := by
  have h1 := inC_bd (s := s) (p := xs[a]?.getD 0) (ys := ys) (outC_bd s xs ys a) (by omega) b i y h
  have h4 : a * ys.length ≤ 24 * 24 := Nat.mul_le_mul (by omega) h3
  omega
set_option maxHeartbeats 1000000 in
theorem differences_any (s : Int) (A : Option Addr) (c : Nat) (xs : List Int) (w : World) (hx : rhOk s xs = true) (hA : IR w A xs) :
    Calls Try.prog 67 #[.agg #[.int .i64 s, .slice A xs.length c]] w (GivesInts w (difC s xs)) := by
  have hlA := hA.len
  have hxl := (rhOk_len hx).1
  obtain ⟨⟨hs1, hs2⟩, hmx, _⟩ := rhOk_iff.1 hx
  obtain ⟨ys, hys⟩ : ∃ ys, ys = xs.map fun q => -q := ⟨_, rfl⟩
  have HYL : Bx (ys.length = xs.length) := ⟨by rw [hys, List.length_map]⟩
  have HYA : Bx (∀ (b : Nat) (y : Int), xs[b]? = some y → ys[b]? = some (-y)) := ⟨fun b y h => by rw [hys, List.getElem?_map, h]; rfl⟩
  have HD : Bx (difC s xs = sumC s xs ys) := ⟨by unfold difC; rw [hys]⟩
  have HM := Bx.mk hmx
  have HB2 := Bx.mk (two_bd2 (s := s) (xs := xs) (ys := ys) hxl (by rw [HYL.out]; exact hxl))
  rw [HD.out]
  clear hmx hx hys
  obtain ⟨n, rfl⟩ := Int.eq_ofNat_of_zero_le (show 0 ≤ s by omega)
  obtain ⟨W0, hW0⟩ : ∃ W0, W0 = w.alloc (.cells #[.int .i64 (n : Int), .slice A xs.length c] 30) := ⟨_, rfl⟩
  have bw : Below w.heap.size w W0 := by rw [hW0]; exact (Below.refl _ _).alloc (Nat.le_refl _) _
  have hz : W0.heap.size = w.heap.size + 1 := by rw [hW0]; simp
  have k0 : W0.cell? ⟨w.heap.size, 0, none⟩ = some (.int .i64 (n : Int)) := by rw [hW0]; simp [go_sem]
  have k1 : W0.cell? ⟨w.heap.size, 1, none⟩ = some (.slice A xs.length c) := by rw [hW0]; simp [go_sem]
  have HA := Bx.mk (hA.below bw)
  clear hA
  have hmk := make_ints n (by omega)
  go_enter Try.func67, Try.ntmps67
  go_wp2_with fail
  simp only [← hW0]
  obtain ⟨g, hg⟩ : ∃ g, g = w.heap.size + 1 := ⟨_, rfl⟩
  have hH0 : Holds (W0.alloc (.cells (madeCells #[.int .i64 0] n) 3)) g (outC n xs ys 0) := by rw [hg, ← hz]; exact Holds.made W0 n
  have hb0 : Below W0.heap.size W0 (W0.alloc (.cells (madeCells #[.int .i64 0] n) 3)) := below_alloc _ _
  rw [← hg]
  have hgz : w.heap.size + 1 ≤ W0.heap.size := by omega
  have hgq : W0.heap.size ≤ g := by omega
  generalize hw1 : W0.alloc (.cells (madeCells #[.int .i64 0] n) 3) = w1 at *
  clear hw1 hmk hW0 hg hz
  go_loopw [14] (fun i wr => ∃ a : Nat, a ≤ xs.length ∧ i = .int .i64 a ∧ Holds wr g (outC n xs ys a) ∧ Below W0.heap.size W0 wr) (fun i _ => xs.length - (intOf i).toNat)
  case atStart => exact ⟨0, by omega, rfl, hH0, hb0⟩
  case round =>
    obtain ⟨a, ha, rfl, hH, hb⟩ := hrel
    clear hH0 hb0
    by_cases hlt : a < xs.length
    · obtain ⟨b1, o1, x, rfl, hbx, c1, H1⟩ := HA.out.one hlt
      have H2 := Bx.mk H1.out
      clear H1
      have HC := Bx.mk (bcell hb).1
      have q1 := (HC.out _ _ (by omega)).trans k1
      have q3 := (HC.out _ _ hbx).trans c1
      have q0 := (HC.out _ _ (by omega)).trans k0
      clear c1
      have hkl : (a : Int) < xs.length := by omega
      obtain ⟨L, hL⟩ : ∃ L, L = outC n xs ys a := ⟨_, rfl⟩
      rw [← hL] at hH
      have HL := Bx.mk hL
      have HLl : Bx (L.length = n) := ⟨by rw [hL, outC_len]; simp⟩
      clear hL
      obtain ⟨hx1, hx2⟩ := HM.out x (List.mem_of_getElem? H2.out)
      go_wp2
      go_loopw [21] (fun i wm => ∃ b : Nat, b ≤ xs.length ∧ i = .int .i64 b ∧ Holds wm g (inC n x ys L b) ∧ Below W0.heap.size W0 wm) (fun i _ => xs.length - (intOf i).toNat)
      case atStart => exact ⟨0, by omega, rfl, hH, hb⟩
      case round =>
        obtain ⟨b, hbl, rfl, hH, hb⟩ := hrel
        by_cases hlt2 : b < xs.length
        · obtain ⟨b2, o2, y, eA, hby, c2, H3⟩ := HA.out.one hlt2
          injection eA with eA
          injection eA with eA1 eA2
          subst eA1 eA2
          have H4 := Bx.mk H3.out
          clear H3
          have r0 := ((bcell hb).1 _ _ (by omega)).trans k0
          have r3 := ((bcell hb).1 _ _ hby).trans c2
          have r1 := ((bcell hb).1 _ _ (by omega)).trans k1
          clear c2 q1 q3 q0
          have hkl2 : (b : Int) < xs.length := by omega
          obtain ⟨hy1, hy2⟩ := HM.out y (List.mem_of_getElem? H4.out)
          have hm0 : 0 ≤ (x - y) % (n : Int) := Int.emod_nonneg _ (by omega)
          have hm1 : (x - y) % (n : Int) < n := Int.emod_lt_of_pos _ (by omega)
          obtain ⟨z, cz, Hz⟩ := hH.cell (k := ((x - y) % (n : Int)).toNat) (by rw [inC_len, HLl.out]; omega)
          have fz := hH.frozen ((x - y) % (n : Int)).toNat
          have hzb : 0 ≤ z ∧ z ≤ 1000 := by
            refine HB2.out a b hlt (by rw [HYL.out]; exact hlt2) ((x - y) % (n : Int)).toNat z ?_
            rw [H2.out, ← HL.out]
            exact Hz.out
          have HN : Bx (inC n x ys L (b + 1) = (inC n x ys L b).set ((x - y) % (n : Int)).toNat (z + 1)) := ⟨by
            simp only [inC, inc]
            rw [HYA.out b y H4.out]
            simp only [Option.getD_some]
            rw [show x + -y = x - y by omega, Hz.out]
            rfl⟩
          have HS := Bx.mk (hH.set ((x - y) % (n : Int)).toNat (z + 1))
          have hb' : Below W0.heap.size W0 (wr.setCell ⟨g, ((x - y) % (n : Int)).toNat, none⟩ (.int .i64 (z + 1))) := hb.setCell (by simp; omega) _
          have HB' := Bx.mk hb'
          clear hb' hb hH
          go_wp2_with (go_at_call 95; refine (remainder_any _ _ (by omega) (by omega) (by omega) _).mono ?_; rintro e w' ⟨rfl, rfl⟩)
          go_roundw
          case rel => exact ⟨b + 1, by omega, by go_num, by rw [HN.out]; exact HS.out, HB'.out⟩
          case measure => simp [intOf]; omega
        · have hby : b = ys.length := by rw [HYL.out]; omega
          have HO : Bx (outC n xs ys (a + 1) = inC n x ys L b) := ⟨by simp only [outC]; rw [H2.out, ← HL.out, hby]; rfl⟩
          clear hby
          go_wp2
          go_roundw
          case rel => exact ⟨a + 1, by omega, by go_num, by rw [HO.out]; exact hH, hb⟩
          case measure => simp [intOf]; omega
    · have hax : a = xs.length := by omega
      have HO : Bx (Holds wr g (sumC n xs ys)) := ⟨by unfold sumC; rw [← hax]; exact hH⟩
      clear hax hH
      have hln : (sumC n xs ys).length = n := by rw [sumC_len]; simp
      have HLN := Bx.mk hln
      clear hln
      have HG : Bx (GivesInts w (sumC n xs ys) (.returned (.slice (some ⟨g, 0, none⟩) n n)) wr) := ⟨by
        refine ⟨some ⟨g, 0, none⟩, n, by rw [HLN.out], ?_, bw.trans (hb.mono bw.size)⟩
        have := HO.out.io (base := w.heap.size) (by omega) (by rw [HLN.out]; omega)
        rw [HLN.out] at this
        exact this⟩
      go_wp2
      go_ret
      exact HG.out
set_option maxHeartbeats 1000000 in
theorem countBeats_ok (s : Int) (A : Option Addr) (c : Nat) (xs : List Int) (w : World) (hok : rhOk s xs = true) (hx : IR w A xs) :
    Calls Try.prog 16 #[.agg #[.int .i64 s, .slice A xs.length c]] w fun e w' => e = .returned (.int .i64 xs.length) ∧ Below w.heap.size w w' := by
  obtain ⟨⟨hs1, hs2⟩, hxb, _⟩ := rhOk_iff.1 hok
  have HXB := Bx.mk hxb
  have hll := (rhOk_len hok).1
  obtain ⟨W0, hW0⟩ : ∃ W0, W0 = w.alloc (.cells #[.int .i64 s, .slice A xs.length c] 30) := ⟨_, rfl⟩
  have bw : Below w.heap.size w W0 := by rw [hW0]; exact below_alloc _ _
  have hz : w.heap.size < W0.heap.size := by rw [hW0]; simp <;> omega
  have k0 : W0.cell? ⟨w.heap.size, 0, none⟩ = some (.int .i64 s) := by rw [hW0]; simp [go_sem]
  have k1 : W0.cell? ⟨w.heap.size, 1, none⟩ = some (.slice A xs.length c) := by rw [hW0]; simp [go_sem]
  have HX := Bx.mk ((RB.of_ir hx).below bw (Nat.le_refl _))
  have HOK := Bx.mk hok
  have HS : Bx (-9223372036854775808 ≤ s ∧ s ≤ 9223372036854775807) := ⟨by omega⟩
  clear hx hxb
  go_enter Try.func16, Try.ntmps16
  go_wp2_with fail
  rw [← hW0]
  clear hW0
  refine (lit_b hok (implRhythmOk_any _ _ _ _ _ HS.out (by exact HX.out.ir))).mono ?_
  clear hok
  rintro e w1 ⟨rfl, b⟩
  replace k0 := ((bcell b).1 _ _ (by omega)).trans k0
  replace k1 := ((bcell b).1 _ _ (by omega)).trans k1
  replace HX := Bx.mk (HX.out.below b (by omega))
  replace bw := bw.trans (b.mono bw.size)
  clear b
  go_wp2_with fail
  go_ret
  exact ⟨rfl, bw⟩
set_option maxHeartbeats 1000000 in
theorem hasBeat_ok (s : Int) (A : Option Addr) (c : Nat) (xs : List Int) (k : Int) (w : World) (hok : rhOk s xs = true) (hx : IR w A xs) (hk : -1000000 ≤ k ∧ k ≤ 1000000) :
    Calls Try.prog 30 #[.agg #[.int .i64 s, .slice A xs.length c], .int .i64 k] w fun e w' => e = .returned (.bool (hasR s xs k)) ∧ Below w.heap.size w w' := by
  obtain ⟨⟨hs1, hs2⟩, hxb, _⟩ := rhOk_iff.1 hok
  have HXB := Bx.mk hxb
  have hll := (rhOk_len hok).1
  obtain ⟨W0, hW0⟩ : ∃ W0, W0 = w.alloc (.cells #[.int .i64 s, .slice A xs.length c] 30) := ⟨_, rfl⟩
  have bw : Below w.heap.size w W0 := by rw [hW0]; exact below_alloc _ _
  have hz : w.heap.size < W0.heap.size := by rw [hW0]; simp <;> omega
  have k0 : W0.cell? ⟨w.heap.size, 0, none⟩ = some (.int .i64 s) := by rw [hW0]; simp [go_sem]
  have k1 : W0.cell? ⟨w.heap.size, 1, none⟩ = some (.slice A xs.length c) := by rw [hW0]; simp [go_sem]
  have HX := Bx.mk ((RB.of_ir hx).below bw (Nat.le_refl _))
  have HOK := Bx.mk hok
  have HS : Bx (-9223372036854775808 ≤ s ∧ s ≤ 9223372036854775807) := ⟨by omega⟩
  clear hx hxb
  go_enter Try.func30, Try.ntmps30
  go_wp2_with fail
  rw [← hW0]
  clear hW0
  refine (lit_b hok (implRhythmOk_any _ _ _ _ _ HS.out (by exact HX.out.ir))).mono ?_
  clear hok
  rintro e w1 ⟨rfl, b⟩
  replace k0 := ((bcell b).1 _ _ (by omega)).trans k0
  replace k1 := ((bcell b).1 _ _ (by omega)).trans k1
  replace HX := Bx.mk (HX.out.below b (by omega))
  replace bw := bw.trans (b.mono bw.size)
  clear b
  go_wp2_with fail
  refine (has_any _ _ _ _ _ _ ⟨hs1, hs2⟩ (by omega) (by exact HX.out.ir)).mono ?_
  rintro e w2 ⟨rfl, b⟩
  replace bw := bw.trans (b.mono bw.size)
  clear b
  go_wp2_with fail
  go_ret
  exact ⟨rfl, bw⟩
set_option maxHeartbeats 1000000 in
theorem diffs_ok (s : Int) (A : Option Addr) (c : Nat) (xs : List Int) (w : World) (hok : rhOk s xs = true) (hx : IR w A xs) :
    Calls Try.prog 19 #[.agg #[.int .i64 s, .slice A xs.length c]] w (GivesInts w (difC s xs)) := by
  obtain ⟨⟨hs1, hs2⟩, hxb, _⟩ := rhOk_iff.1 hok
  have HXB := Bx.mk hxb
  have hll := (rhOk_len hok).1
  obtain ⟨W0, hW0⟩ : ∃ W0, W0 = w.alloc (.cells #[.int .i64 s, .slice A xs.length c] 30) := ⟨_, rfl⟩
  have bw : Below w.heap.size w W0 := by rw [hW0]; exact below_alloc _ _
  have hz : w.heap.size < W0.heap.size := by rw [hW0]; simp <;> omega
  have k0 : W0.cell? ⟨w.heap.size, 0, none⟩ = some (.int .i64 s) := by rw [hW0]; simp [go_sem]
  have k1 : W0.cell? ⟨w.heap.size, 1, none⟩ = some (.slice A xs.length c) := by rw [hW0]; simp [go_sem]
  have HX := Bx.mk ((RB.of_ir hx).below bw (Nat.le_refl _))
  have HOK := Bx.mk hok
  have HS : Bx (-9223372036854775808 ≤ s ∧ s ≤ 9223372036854775807) := ⟨by omega⟩
  clear hx hxb
  go_enter Try.func19, Try.ntmps19
  go_wp2_with fail
  rw [← hW0]
  clear hW0
  refine (lit_b hok (implRhythmOk_any _ _ _ _ _ HS.out (by exact HX.out.ir))).mono ?_
  clear hok
  rintro e w1 ⟨rfl, b⟩
  replace k0 := ((bcell b).1 _ _ (by omega)).trans k0
  replace k1 := ((bcell b).1 _ _ (by omega)).trans k1
  replace HX := Bx.mk (HX.out.below b (by omega))
  replace bw := bw.trans (b.mono bw.size)
  clear b
  go_wp2_with fail
  refine (differences_any _ _ _ _ _ HOK.out (by exact HX.out.ir)).mono ?_
  rintro e w2 ⟨A2, c2, rfl, io, b⟩
  have HIO := Bx.mk (io.mono bw.size)
  replace bw := bw.trans (b.mono bw.size)
  clear b io
  go_wp2_with fail
  go_ret
  exact ⟨A2, c2, rfl, HIO.out, bw⟩
set_option maxHeartbeats 1000000 in
theorem rotate_ok (s : Int) (A : Option Addr) (c : Nat) (xs : List Int) (k : Int) (w : World) (hok : rhOk s xs = true) (hx : IR w A xs) (hk : -1000 ≤ k ∧ k ≤ 1000) :
    Calls Try.prog 41 #[.agg #[.int .i64 s, .slice A xs.length c], .int .i64 k] w (GivesRB w s (rotL s xs k) true) := by
  obtain ⟨⟨hs1, hs2⟩, hxb, _⟩ := rhOk_iff.1 hok
  have HXB := Bx.mk hxb
  have hll := (rhOk_len hok).1
  obtain ⟨W0, hW0⟩ : ∃ W0, W0 = (w.alloc (.cells #[.int .i64 s, .slice A xs.length c] 30)).alloc (.cells #[.int .i64 0, .slice none 0 0] 30) := ⟨_, rfl⟩
  have bw : Below w.heap.size w W0 := by rw [hW0]; exact (below_alloc _ _).alloc (by simp) _
  have hz : w.heap.size < W0.heap.size := by rw [hW0]; simp <;> omega
  have R0 : Blk W0 (w.heap.size + 1) 30 #[.int .i64 0, .slice none 0 0] := by rw [hW0]; have := Blk.new (w.alloc (.cells #[.int .i64 s, .slice A xs.length c] 30)) 30 #[.int .i64 0, .slice none 0 0]; simpa using this
  have hz2 : w.heap.size + 1 < W0.heap.size := by rw [hW0]; simp <;> omega
  have hin : inB k (-1000) 1000 = true := inB_yes hk
  have k0 : W0.cell? ⟨w.heap.size, 0, none⟩ = some (.int .i64 s) := by rw [hW0]; simp [go_sem]
  have k1 : W0.cell? ⟨w.heap.size, 1, none⟩ = some (.slice A xs.length c) := by rw [hW0]; simp [go_sem]
  have HX := Bx.mk ((RB.of_ir hx).below bw (Nat.le_refl _))
  have HOK := Bx.mk hok
  have HS : Bx (-9223372036854775808 ≤ s ∧ s ≤ 9223372036854775807) := ⟨by omega⟩
  clear hx hxb
  go_enter Try.func41, Try.ntmps41
  go_wp2_with fail
  rw [← hW0]
  clear hW0
  refine (lit_b hok (implRhythmOk_any _ _ _ _ _ HS.out (by exact HX.out.ir))).mono ?_
  clear hok
  rintro e w1 ⟨rfl, b⟩
  replace k0 := ((bcell b).1 _ _ (by omega)).trans k0
  replace k1 := ((bcell b).1 _ _ (by omega)).trans k1
  replace HX := Bx.mk (HX.out.below b (by omega))
  replace bw := bw.trans (b.mono bw.size)
  replace R0 := R0.below b hz2
  have hz3 : w.heap.size + 2 ≤ w1.heap.size := by have := b.size; omega
  clear b
  go_wp2_with (go_at_call 55; refine (within_any _ _ _ _).mono ?_; rintro e w' ⟨rfl, rfl⟩)
  refine (rotated_any _ _ _ _ _ _ ⟨hs1, hs2⟩ (fun x hx => by have := HXB.out x hx; omega) (by omega) (by omega) (by exact HX.out.ir)).mono ?_
  rintro e w2 ⟨A2, c2, rfl, io, b⟩
  replace R0 := R0.below b (by omega)
  have cr0 := R0.at_ (i := 0) rfl
  have cr1 := R0.at_ (i := 1) rfl
  have fr0 := R0.frozen 0
  have fr1 := R0.frozen 1
  replace bw := bw.trans (b.mono bw.size)
  have RF := Bx.mk ((R0.set 0 (.int .i64 s)).set 1 (.slice A2 (rotL s xs k).length c2))
  have BF := Bx.mk ((bw.setCell (p := ⟨w.heap.size + 1, 0, none⟩) (show w.heap.size ≤ w.heap.size + 1 by omega) (.int .i64 s)).setCell (p := ⟨w.heap.size + 1, 1, none⟩) (show w.heap.size ≤ w.heap.size + 1 by omega) (.slice A2 (rotL s xs k).length c2))
  have HIO := Bx.mk ((io.setLow (p := ⟨w.heap.size + 1, 0, none⟩) (show w.heap.size + 1 < w1.heap.size by omega) (.int .i64 s)).setLow (p := ⟨w.heap.size + 1, 1, none⟩) (show w.heap.size + 1 < w1.heap.size by omega) (.slice A2 (rotL s xs k).length c2))
  clear R0 io b
  generalize rotL s xs k = L at *
  go_wp2_with fail
  exact bodyPost_ret (v := .tuple #[.agg #[.int .i64 s, .slice A2 L.length c2], .bool true]) (by simp [results, Try.results41, go_sem, RF.out.at_ (i := 0) rfl, RF.out.at_ (i := 1) rfl]) rfl ⟨A2, c2, rfl, HIO.out.mono (by omega), BF.out⟩
end Go.Proofs.Ytlgiijibekobfaa
