/- The vector of a rhythm, walked. -/
import Derived.Test.YtlgiijibekobfaaDiff
import Derived.Test.YtlgiijibekobfaaIvPl3
namespace Go.Proofs.Ytlgiijibekobfaa
open Go.RowKit

theorem inc_ub {l : List Int} {B : Int} (h : ∀ (i : Nat) (y : Int), l[i]? = some y → 0 ≤ y ∧ y ≤ B) (k : Nat) : ∀ (i : Nat) (y : Int), (inc l k)[i]? = some y → 0 ≤ y ∧ y ≤ B + 1 := by
  intro i y hy
  unfold inc at hy
  by_cases hk : k = i
  · subst hk
    by_cases hl : k < l.length
    · rw [List.getElem?_set_self hl] at hy
      have h1 := h k _ (List.getElem?_eq_getElem hl)
      rw [List.getElem?_eq_getElem hl] at hy
      simp only [Option.getD_some] at hy
      injection hy with hy
      omega
    · rw [List.getElem?_eq_none (by simp; omega)] at hy; cases hy
  · rw [List.getElem?_set_ne hk] at hy
    have := h i y hy
    omega
theorem vin_ub {s p : Int} {ys l : List Int} {B : Int} (h : ∀ (i : Nat) (y : Int), l[i]? = some y → 0 ≤ y ∧ y ≤ B) : ∀ (b : Nat) (i : Nat) (y : Int), (vin s p ys l b)[i]? = some y → 0 ≤ y ∧ y ≤ B + b
  | 0, i, y, hy => by have := h i y hy; omega
  | b + 1, i, y, hy => by
    have := inc_ub (vin_ub h b) _ i y hy
    omega
theorem vout_ub {s : Int} {xs : List Int} : ∀ (a : Nat), a ≤ 24 → ∀ (i : Nat) (y : Int), (vout s xs a)[i]? = some y → 0 ≤ y ∧ y ≤ 24 * a
  | 0, _, i, y, hy => by
    have hm := List.mem_of_getElem? hy
    simp only [vout] at hm
    have := List.eq_of_mem_replicate hm
    omega
  | a + 1, ha, i, y, hy => by
    have := vin_ub (vout_ub (s := s) (xs := xs) a (by omega)) a i y hy
    omega
set_option maxHeartbeats 2000000 in
set_option maxRecDepth 20000 in
theorem vector_any (s : Int) (A : Option Addr) (c : Nat) (xs : List Int) (w : World) (hx : rhOk s xs = true) (hcap : xs.length ≤ c) (hA : IR w A xs) :
    Calls Try.prog 85 #[.agg #[.int .i64 s, .slice A xs.length c]] w (GivesInts w (vecC s xs)) := by
  have hlA := hA.len
  have hxl := (rhOk_len hx).1
  obtain ⟨⟨hs1, hs2⟩, hmx, hasc⟩ := rhOk_iff.1 hx
  obtain ⟨n, rfl⟩ := Int.eq_ofNat_of_zero_le (show 0 ≤ s by omega)
  obtain ⟨h, hh⟩ : ∃ h : Nat, h = n / 2 := ⟨_, rfl⟩
  have hqt : (n : Int).tdiv 2 = (h : Int) := by rw [hh]; exact (Int.ofNat_tdiv n 2).symm
  have hqe : (n : Int) / 2 = (h : Int) := by rw [hh]; exact (Int.natCast_ediv n 2).symm
  have HQ := Bx.mk hqe
  have HH : Bx (h = n / 2) := ⟨hh⟩
  have hb24 : h ≤ 24 := by omega
  have HM := Bx.mk hmx
  have HAS := Bx.mk hasc
  clear hmx hx hasc hh
  obtain ⟨W0, hW0⟩ : ∃ W0, W0 = w.alloc (.cells #[.int .i64 (n : Int), .slice A xs.length c] 30) := ⟨_, rfl⟩
  have bw : Below w.heap.size w W0 := by rw [hW0]; exact (Below.refl _ _).alloc (Nat.le_refl _) _
  have hz : W0.heap.size = w.heap.size + 1 := by rw [hW0]; simp
  have k0 : W0.cell? ⟨w.heap.size, 0, none⟩ = some (.int .i64 (n : Int)) := by rw [hW0]; simp [go_sem]
  have k1 : W0.cell? ⟨w.heap.size, 1, none⟩ = some (.slice A xs.length c) := by rw [hW0]; simp [go_sem]
  have HA := Bx.mk (hA.below bw)
  clear hA
  have hmk := make_ints h (by omega)
  go_enter Try.func85, Try.ntmps85
  go_wp2_with fail
  simp only [← hW0]
  obtain ⟨g, hg⟩ : ∃ g, g = w.heap.size + 1 := ⟨_, rfl⟩
  have hH0 : Holds (W0.alloc (.cells (madeCells #[.int .i64 0] h) 3)) g (vout n xs 0) := by
    rw [hg, ← hz, show vout n xs 0 = List.replicate h 0 by simp only [vout]; rw [HQ.out]; simp]
    exact Holds.made W0 h
  have hb0 : Below W0.heap.size W0 (W0.alloc (.cells (madeCells #[.int .i64 0] h) 3)) := below_alloc _ _
  rw [← hg]
  have hgz : w.heap.size + 1 ≤ W0.heap.size := by omega
  have hgq : W0.heap.size ≤ g := by omega
  generalize hw1 : W0.alloc (.cells (madeCells #[.int .i64 0] h) 3) = w1 at *
  clear hw1 hmk hW0 hg hz hqt hqe
  go_loopw [15] (fun i wr => ∃ a : Nat, a ≤ xs.length ∧ i = .int .i64 a ∧ Holds wr g (vout n xs a) ∧ Below W0.heap.size W0 wr) (fun i _ => xs.length - (intOf i).toNat)
  case atStart => exact ⟨0, by omega, rfl, hH0, hb0⟩
  case round =>
    obtain ⟨a, ha, rfl, hH, hb⟩ := hrel
    clear hH0 hb0
    by_cases hlt : a < xs.length
    · obtain ⟨b1, o1, x, rfl, hbx, c1, H1⟩ := HA.out.one hlt
      have H2 := Bx.mk H1.out
      clear H1
      have HC := Bx.mk (bcell hb).1
      have q1 := (HC.out _ _ (by omega)).trans k1
      have q3 := (HC.out _ _ hbx).trans c1
      have q0 := (HC.out _ _ (by omega)).trans k0
      clear c1
      have hkl : (a : Int) < xs.length := by omega
      have hac : a ≤ c := by omega
      have hai : (a : Int) ≤ (c : Int) := by omega
      obtain ⟨L, hL⟩ : ∃ L, L = vout n xs a := ⟨_, rfl⟩
      rw [← hL] at hH
      have HL := Bx.mk hL
      have HLl : Bx (L.length = h) := ⟨by rw [hL, vout_len, HQ.out]; simp⟩
      clear hL
      obtain ⟨hx1, hx2⟩ := HM.out x (List.mem_of_getElem? H2.out)
      go_wp2_with fail
      go_loopw [25] (fun i wm => ∃ b : Nat, b ≤ a ∧ i = .int .i64 b ∧ Holds wm g (vin n x xs L b) ∧ Below W0.heap.size W0 wm) (fun i _ => a - (intOf i).toNat)
      case atStart => exact ⟨0, by omega, rfl, hH, hb⟩
      case round =>
        obtain ⟨b, hbl, rfl, hH, hb⟩ := hrel
        by_cases hlt2 : b < a
        · obtain ⟨b2, o2, y, eA, hby, c2, H3⟩ := HA.out.one (k := b) (by omega)
          injection eA with eA
          injection eA with eA1 eA2
          subst eA1 eA2
          have H4 := Bx.mk H3.out
          clear H3
          have r0 := ((bcell hb).1 _ _ (by omega)).trans k0
          have r3 := ((bcell hb).1 _ _ hby).trans c2
          have r1 := ((bcell hb).1 _ _ (by omega)).trans k1
          clear c2 q1 q3 q0
          have hkl2 : (b : Int) < (a : Int) := by omega
          obtain ⟨hy1, hy2⟩ := HM.out y (List.mem_of_getElem? H4.out)
          have hyx : y < x := by
            obtain ⟨l1, e1⟩ := List.getElem?_eq_some_iff.1 H2.out
            obtain ⟨l2, e2⟩ := List.getElem?_eq_some_iff.1 H4.out
            have := List.pairwise_iff_getElem.1 HAS.out b a l2 l1 hlt2
            omega
          obtain ⟨u, hu⟩ := Int.eq_ofNat_of_zero_le (show 0 ≤ x - y by omega)
          obtain ⟨v, hv⟩ := Int.eq_ofNat_of_zero_le (show 0 ≤ (n : Int) + y - x by omega)
          obtain ⟨m, hm⟩ : ∃ m : Nat, m = min u v := ⟨_, rfl⟩
          have hm1 : 1 ≤ m := by omega
          have hmh : m ≤ h := by have := HH.out; omega
          obtain ⟨j, hj⟩ : ∃ j : Nat, j = m - 1 := ⟨_, rfl⟩
          have hji : (m : Int) - 1 = (j : Int) := by omega
          have hjh : j < h := by omega
          have hjhi : (j : Int) < (h : Int) := by omega
          have HJ : Bx ((min (x - y) ((n : Int) + y - x) - 1).toNat = j) := ⟨by rw [hu, hv]; omega⟩
          obtain ⟨z, cz, Hz⟩ := hH.cell (k := j) (by rw [vin_len, HLl.out]; omega)
          have fz := hH.frozen j
          have hzb : 0 ≤ z ∧ z ≤ 1000 := by
            have := vin_ub (s := n) (p := x) (ys := xs) (l := L) (B := 24 * a) (by rw [HL.out]; exact vout_ub a (by omega)) b j z Hz.out
            omega
          have HN : Bx (vin n x xs L (b + 1) = (vin n x xs L b).set j (z + 1)) := ⟨by
            simp only [vin, inc]
            rw [H4.out]
            simp only [Option.getD_some]
            rw [HJ.out, Hz.out]
            rfl⟩
          have HS := Bx.mk (hH.set j (z + 1))
          have HB' := Bx.mk (hb.setCell (p := ⟨g, j, none⟩) (by simp; omega) (.int .i64 (z + 1)))
          clear hb hH HJ
          have hmm : min (u : Int) (v : Int) = (m : Int) := by omega
          clear hm hj
          go_wp2_with fail
          go_roundw
          case rel => exact ⟨b + 1, by omega, by go_num, by rw [HN.out]; exact HS.out, HB'.out⟩
          case measure => simp [intOf]; omega
        · have hby : b = a := by omega
          have HO : Bx (vout n xs (a + 1) = vin n x xs L b) := ⟨by simp only [vout]; rw [H2.out, ← HL.out, hby]; rfl⟩
          have hkl2 : ¬ (b : Int) < (a : Int) := by omega
          clear hby
          go_wp2_with fail
          go_roundw
          case rel => exact ⟨a + 1, by omega, by go_num, by rw [HO.out]; exact hH, hb⟩
          case measure => simp [intOf]; omega
    · have hax : a = xs.length := by omega
      have HO : Bx (Holds wr g (vecC n xs)) := ⟨by unfold vecC; rw [← hax]; exact hH⟩
      clear hax hH
      have hln : (vecC n xs).length = h := by rw [vecC_len, HQ.out]; simp
      have HLN := Bx.mk hln
      clear hln
      have HG : Bx (GivesInts w (vecC n xs) (.returned (.slice (some ⟨g, 0, none⟩) h h)) wr) := ⟨by
        refine ⟨some ⟨g, 0, none⟩, h, by rw [HLN.out], ?_, bw.trans (hb.mono bw.size)⟩
        have := HO.out.io (base := w.heap.size) (by omega) (by rw [HLN.out]; omega)
        rw [HLN.out] at this
        exact this⟩
      go_wp2_with fail
      go_ret
      exact HG.out
end Go.Proofs.Ytlgiijibekobfaa
