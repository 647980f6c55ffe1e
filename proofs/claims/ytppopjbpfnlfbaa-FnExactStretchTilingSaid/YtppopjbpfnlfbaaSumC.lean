/- How often each pulse is a sum of two beats, walked. -/
import Derived.Test.YtppopjbpfnlfbaaBas
namespace Go.Proofs.Ytppopjbpfnlfbaa
open Go.RowKit

set_option maxHeartbeats 1000000 in
theorem sumCounts_any (s : Int) (A B : Option Addr) (c d : Nat) (xs ys : List Int) (w : World) (hx : rhOk s xs = true) (hy : rhOk s ys = true) (hA : IR w A xs) (hB : IR w B ys) :
    Calls Try.prog 28 #[.agg #[.int .i64 s, .slice A xs.length c], .agg #[.int .i64 s, .slice B ys.length d]] w (GivesInts w (sumC s xs ys)) := by
  have hlA := hA.len
  have hlB := hB.len
  obtain ⟨⟨hs1, hs2⟩, hmx, _⟩ := rhOk_iff.1 hx
  obtain ⟨_, hmy, _⟩ := rhOk_iff.1 hy
  have HM := Bx.mk (And.intro hmx hmy)
  have HB2 := Bx.mk (two_bd hx hy)
  clear hmx hmy hx hy
  obtain ⟨n, rfl⟩ := Int.eq_ofNat_of_zero_le (show 0 ≤ s by omega)
  obtain ⟨W0, hW0⟩ : ∃ W0, W0 = (w.alloc (.cells #[.int .i64 (n : Int), .slice A xs.length c] 26)).alloc (.cells #[.int .i64 (n : Int), .slice B ys.length d] 26) := ⟨_, rfl⟩
  have bw : Below w.heap.size w W0 := by rw [hW0]; exact ((Below.refl _ _).alloc (Nat.le_refl _) _).alloc (by simp) _
  have hz : W0.heap.size = w.heap.size + 1 + 1 := by rw [hW0]; simp
  have k0 : W0.cell? ⟨w.heap.size, 0, none⟩ = some (.int .i64 (n : Int)) := by rw [hW0]; simp [go_sem]
  have k1 : W0.cell? ⟨w.heap.size, 1, none⟩ = some (.slice A xs.length c) := by rw [hW0]; simp [go_sem]
  have k2 : W0.cell? ⟨w.heap.size + 1, 1, none⟩ = some (.slice B ys.length d) := by rw [hW0]; simp [go_sem]
  have HA := Bx.mk (hA.below bw)
  have HBB := Bx.mk (hB.below bw)
  clear hA hB
  have hmk := make_ints n (by omega)
  go_enter Try.func28, Try.ntmps28
  go_wp2_with fail
  simp only [← hW0]
  obtain ⟨g, hg⟩ : ∃ g, g = w.heap.size + 1 + 1 := ⟨_, rfl⟩
  have hH0 : Holds (W0.alloc (.cells (madeCells #[.int .i64 0] n) 3)) g (outC n xs ys 0) := by rw [hg, ← hz]; exact Holds.made W0 n
  have hb0 : Below W0.heap.size W0 (W0.alloc (.cells (madeCells #[.int .i64 0] n) 3)) := below_alloc _ _
  rw [← hg]
  have hgz : w.heap.size + 2 ≤ W0.heap.size := by omega
  have hgq : W0.heap.size ≤ g := by omega
  generalize hw1 : W0.alloc (.cells (madeCells #[.int .i64 0] n) 3) = w1 at *
  clear hw1 hmk hW0 hg hz
  go_loopw [16] (fun i wr => ∃ a : Nat, a ≤ xs.length ∧ i = .int .i64 a ∧ Holds wr g (outC n xs ys a) ∧ Below W0.heap.size W0 wr) (fun i _ => xs.length - (intOf i).toNat)
  case atStart => exact ⟨0, by omega, rfl, hH0, hb0⟩
  case round =>
    obtain ⟨a, ha, rfl, hH, hb⟩ := hrel
    clear hH0 hb0
    by_cases hlt : a < xs.length
    · obtain ⟨b1, o1, x, rfl, hbx, c1, H1⟩ := HA.out.one hlt
      have H2 := Bx.mk H1.out
      clear H1
      have HC := Bx.mk (bcell hb).1
      have q1 := (HC.out _ _ (by omega)).trans k1
      have q2 := (HC.out _ _ (by omega)).trans k2
      have q3 := (HC.out _ _ hbx).trans c1
      clear c1
      have hkl : (a : Int) < xs.length := by omega
      obtain ⟨L, hL⟩ : ∃ L, L = outC n xs ys a := ⟨_, rfl⟩
      rw [← hL] at hH
      have HL := Bx.mk hL
      have HLl : Bx (L.length = n) := ⟨by rw [hL, outC_len]; simp⟩
      clear hL
      obtain ⟨hx1, hx2⟩ := HM.out.1 x (List.mem_of_getElem? H2.out)
      go_wp2
      go_loopw [23] (fun i wm => ∃ b : Nat, b ≤ ys.length ∧ i = .int .i64 b ∧ Holds wm g (inC n x ys L b) ∧ Below W0.heap.size W0 wm) (fun i _ => ys.length - (intOf i).toNat)
      case atStart => exact ⟨0, by omega, rfl, hH, hb⟩
      case round =>
        obtain ⟨b, hbl, rfl, hH, hb⟩ := hrel
        by_cases hlt2 : b < ys.length
        · obtain ⟨b2, o2, y, rfl, hby, c2, H3⟩ := HBB.out.one hlt2
          have H4 := Bx.mk H3.out
          clear H3
          have r0 := ((bcell hb).1 _ _ (by omega)).trans k0
          have r3 := ((bcell hb).1 _ _ hby).trans c2
          clear c2 q1 q2 q3
          have hkl2 : (b : Int) < ys.length := by omega
          obtain ⟨hy1, hy2⟩ := HM.out.2 y (List.mem_of_getElem? H4.out)
          have hm0 : 0 ≤ (x + y) % (n : Int) := Int.emod_nonneg _ (by omega)
          have hm1 : (x + y) % (n : Int) < n := Int.emod_lt_of_pos _ (by omega)
          obtain ⟨z, cz, Hz⟩ := hH.cell (k := ((x + y) % (n : Int)).toNat) (by rw [inC_len, HLl.out]; omega)
          have fz := hH.frozen ((x + y) % (n : Int)).toNat
          have hzb : 0 ≤ z ∧ z ≤ 1000 := by
            refine HB2.out a b hlt hlt2 ((x + y) % (n : Int)).toNat z ?_
            rw [H2.out, ← HL.out]
            exact Hz.out
          have HN : Bx (inC n x ys L (b + 1) = (inC n x ys L b).set ((x + y) % (n : Int)).toNat (z + 1)) := ⟨by
            simp only [inC, inc]
            rw [H4.out]
            simp only [Option.getD_some]
            rw [Hz.out]
            rfl⟩
          have HS := Bx.mk (hH.set ((x + y) % (n : Int)).toNat (z + 1))
          have hb' : Below W0.heap.size W0 (wr.setCell ⟨g, ((x + y) % (n : Int)).toNat, none⟩ (.int .i64 (z + 1))) := hb.setCell (by simp; omega) _
          have HB' := Bx.mk hb'
          clear hb' hb hH
          go_wp2
          go_roundw
          case rel => exact ⟨b + 1, by omega, by go_num, by rw [HN.out]; exact HS.out, HB'.out⟩
          case measure => simp [intOf]; omega
        · have hby : b = ys.length := by omega
          have HO : Bx (outC n xs ys (a + 1) = inC n x ys L b) := ⟨by simp only [outC]; rw [H2.out, ← HL.out, hby]; rfl⟩
          clear hby
          go_wp2
          go_roundw
          case rel => exact ⟨a + 1, by omega, by go_num, by rw [HO.out]; exact hH, hb⟩
          case measure => simp [intOf]; omega
    · have hax : a = xs.length := by omega
      have HO : Bx (Holds wr g (sumC n xs ys)) := ⟨by unfold sumC; rw [← hax]; exact hH⟩
      clear hax hH
      have hln : (sumC n xs ys).length = n := by rw [sumC_len]; simp
      have HLN := Bx.mk hln
      clear hln
      have HG : Bx (GivesInts w (sumC n xs ys) (.returned (.slice (some ⟨g, 0, none⟩) n n)) wr) := ⟨by
        refine ⟨some ⟨g, 0, none⟩, n, by rw [HLN.out], ?_, bw.trans (hb.mono bw.size)⟩
        have := HO.out.io (base := w.heap.size) (by omega) (by rw [HLN.out]; omega)
        rw [HLN.out] at this
        exact this⟩
      go_wp2
      go_ret
      exact HG.out
set_option maxHeartbeats 1000000 in
theorem l09Counts_any (s : Int) (A B : Option Addr) (c d : Nat) (xs ys : List Int) (w : World) (hx : rhOk s xs = true) (hy : rhOk s ys = true) (hA : IR w A xs) (hB : IR w B ys) :
    Calls Try.prog 23 #[.agg #[.int .i64 s, .slice A xs.length c], .agg #[.int .i64 s, .slice B ys.length d]] w (GivesInts w (sumC s xs ys)) := by
  have hlA := hA.len
  have hlB := hB.len
  obtain ⟨⟨hs1, hs2⟩, hmx, _⟩ := rhOk_iff.1 hx
  obtain ⟨_, hmy, _⟩ := rhOk_iff.1 hy
  have HM := Bx.mk (And.intro hmx hmy)
  have HB2 := Bx.mk (two_bd hx hy)
  clear hmx hmy hx hy
  obtain ⟨n, rfl⟩ := Int.eq_ofNat_of_zero_le (show 0 ≤ s by omega)
  obtain ⟨W0, hW0⟩ : ∃ W0, W0 = (w.alloc (.cells #[.int .i64 (n : Int), .slice A xs.length c] 26)).alloc (.cells #[.int .i64 (n : Int), .slice B ys.length d] 26) := ⟨_, rfl⟩
  have bw : Below w.heap.size w W0 := by rw [hW0]; exact ((Below.refl _ _).alloc (Nat.le_refl _) _).alloc (by simp) _
  have hz : W0.heap.size = w.heap.size + 1 + 1 := by rw [hW0]; simp
  have k0 : W0.cell? ⟨w.heap.size, 0, none⟩ = some (.int .i64 (n : Int)) := by rw [hW0]; simp [go_sem]
  have k1 : W0.cell? ⟨w.heap.size, 1, none⟩ = some (.slice A xs.length c) := by rw [hW0]; simp [go_sem]
  have k2 : W0.cell? ⟨w.heap.size + 1, 1, none⟩ = some (.slice B ys.length d) := by rw [hW0]; simp [go_sem]
  have HA := Bx.mk (hA.below bw)
  have HBB := Bx.mk (hB.below bw)
  clear hA hB
  have hmk := make_ints n (by omega)
  go_enter Try.func23, Try.ntmps23
  go_wp2_with fail
  simp only [← hW0]
  obtain ⟨g, hg⟩ : ∃ g, g = w.heap.size + 1 + 1 := ⟨_, rfl⟩
  have hH0 : Holds (W0.alloc (.cells (madeCells #[.int .i64 0] n) 3)) g (outC n xs ys 0) := by rw [hg, ← hz]; exact Holds.made W0 n
  have hb0 : Below W0.heap.size W0 (W0.alloc (.cells (madeCells #[.int .i64 0] n) 3)) := below_alloc _ _
  rw [← hg]
  have hgz : w.heap.size + 2 ≤ W0.heap.size := by omega
  have hgq : W0.heap.size ≤ g := by omega
  generalize hw1 : W0.alloc (.cells (madeCells #[.int .i64 0] n) 3) = w1 at *
  clear hw1 hmk hW0 hg hz
  go_loopw [16] (fun i wr => ∃ a : Nat, a ≤ xs.length ∧ i = .int .i64 a ∧ Holds wr g (outC n xs ys a) ∧ Below W0.heap.size W0 wr) (fun i _ => xs.length - (intOf i).toNat)
  case atStart => exact ⟨0, by omega, rfl, hH0, hb0⟩
  case round =>
    obtain ⟨a, ha, rfl, hH, hb⟩ := hrel
    clear hH0 hb0
    by_cases hlt : a < xs.length
    · obtain ⟨b1, o1, x, rfl, hbx, c1, H1⟩ := HA.out.one hlt
      have H2 := Bx.mk H1.out
      clear H1
      have HC := Bx.mk (bcell hb).1
      have q1 := (HC.out _ _ (by omega)).trans k1
      have q2 := (HC.out _ _ (by omega)).trans k2
      have q3 := (HC.out _ _ hbx).trans c1
      clear c1
      have hkl : (a : Int) < xs.length := by omega
      obtain ⟨L, hL⟩ : ∃ L, L = outC n xs ys a := ⟨_, rfl⟩
      rw [← hL] at hH
      have HL := Bx.mk hL
      have HLl : Bx (L.length = n) := ⟨by rw [hL, outC_len]; simp⟩
      clear hL
      obtain ⟨hx1, hx2⟩ := HM.out.1 x (List.mem_of_getElem? H2.out)
      go_wp2
      go_loopw [23] (fun i wm => ∃ b : Nat, b ≤ ys.length ∧ i = .int .i64 b ∧ Holds wm g (inC n x ys L b) ∧ Below W0.heap.size W0 wm) (fun i _ => ys.length - (intOf i).toNat)
      case atStart => exact ⟨0, by omega, rfl, hH, hb⟩
      case round =>
        obtain ⟨b, hbl, rfl, hH, hb⟩ := hrel
        by_cases hlt2 : b < ys.length
        · obtain ⟨b2, o2, y, rfl, hby, c2, H3⟩ := HBB.out.one hlt2
          have H4 := Bx.mk H3.out
          clear H3
          have r0 := ((bcell hb).1 _ _ (by omega)).trans k0
          have r3 := ((bcell hb).1 _ _ hby).trans c2
          clear c2 q1 q2 q3
          have hkl2 : (b : Int) < ys.length := by omega
          obtain ⟨hy1, hy2⟩ := HM.out.2 y (List.mem_of_getElem? H4.out)
          have hm0 : 0 ≤ (x + y) % (n : Int) := Int.emod_nonneg _ (by omega)
          have hm1 : (x + y) % (n : Int) < n := Int.emod_lt_of_pos _ (by omega)
          obtain ⟨z, cz, Hz⟩ := hH.cell (k := ((x + y) % (n : Int)).toNat) (by rw [inC_len, HLl.out]; omega)
          have fz := hH.frozen ((x + y) % (n : Int)).toNat
          have hzb : 0 ≤ z ∧ z ≤ 1000 := by
            refine HB2.out a b hlt hlt2 ((x + y) % (n : Int)).toNat z ?_
            rw [H2.out, ← HL.out]
            exact Hz.out
          have HN : Bx (inC n x ys L (b + 1) = (inC n x ys L b).set ((x + y) % (n : Int)).toNat (z + 1)) := ⟨by
            simp only [inC, inc]
            rw [H4.out]
            simp only [Option.getD_some]
            rw [Hz.out]
            rfl⟩
          have HS := Bx.mk (hH.set ((x + y) % (n : Int)).toNat (z + 1))
          have hb' : Below W0.heap.size W0 (wr.setCell ⟨g, ((x + y) % (n : Int)).toNat, none⟩ (.int .i64 (z + 1))) := hb.setCell (by simp; omega) _
          have HB' := Bx.mk hb'
          clear hb' hb hH
          go_wp2
          go_roundw
          case rel => exact ⟨b + 1, by omega, by go_num, by rw [HN.out]; exact HS.out, HB'.out⟩
          case measure => simp [intOf]; omega
        · have hby : b = ys.length := by omega
          have HO : Bx (outC n xs ys (a + 1) = inC n x ys L b) := ⟨by simp only [outC]; rw [H2.out, ← HL.out, hby]; rfl⟩
          clear hby
          go_wp2
          go_roundw
          case rel => exact ⟨a + 1, by omega, by go_num, by rw [HO.out]; exact hH, hb⟩
          case measure => simp [intOf]; omega
    · have hax : a = xs.length := by omega
      have HO : Bx (Holds wr g (sumC n xs ys)) := ⟨by unfold sumC; rw [← hax]; exact hH⟩
      clear hax hH
      have hln : (sumC n xs ys).length = n := by rw [sumC_len]; simp
      have HLN := Bx.mk hln
      clear hln
      have HG : Bx (GivesInts w (sumC n xs ys) (.returned (.slice (some ⟨g, 0, none⟩) n n)) wr) := ⟨by
        refine ⟨some ⟨g, 0, none⟩, n, by rw [HLN.out], ?_, bw.trans (hb.mono bw.size)⟩
        have := HO.out.io (base := w.heap.size) (by omega) (by rw [HLN.out]; omega)
        rw [HLN.out] at this
        exact this⟩
      go_wp2
      go_ret
      exact HG.out
end Go.Proofs.Ytppopjbpfnlfbaa
