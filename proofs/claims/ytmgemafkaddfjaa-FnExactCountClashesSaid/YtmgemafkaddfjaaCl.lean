/- The clashes of a canon. -/
import Derived.Test.YtmgemafkaddfjaaClPlain
import Derived.Test.YtmgemafkaddfjaaSumC
import Derived.Test.YtmgemafkaddfjaaCn
namespace Go.Proofs.Ytmgemafkaddfjaa
open Go.RowKit

set_option maxHeartbeats 1000000 in
theorem implCl_any (s u : Int) (A B : Option Addr) (c d : Nat) (xs ys : List Int) (w : World) (hs : -9223372036854775808 ≤ s ∧ s ≤ 9223372036854775807) (hu : -9223372036854775808 ≤ u ∧ u ≤ 9223372036854775807) (hx : IR w A xs) (hy : IR w B ys) :
    Calls Try.prog 18 #[.agg #[.int .i64 s, .slice A xs.length c, .int .i64 u, .slice B ys.length d]] w fun e w' => e = .returned (.int .i64 (clI s xs u ys)) ∧ Below w.heap.size w w' := by
  obtain ⟨W0, hW0⟩ : ∃ W0, W0 = w.alloc (.cells #[.int .i64 s, .slice A xs.length c, .int .i64 u, .slice B ys.length d] 31) := ⟨_, rfl⟩
  have bw : Below w.heap.size w W0 := by rw [hW0]; exact below_alloc _ _
  have hz : w.heap.size + 1 ≤ W0.heap.size := by rw [hW0]; simp
  have k0 : W0.cell? ⟨w.heap.size, 0, none⟩ = some (.int .i64 s) := by rw [hW0]; simp [go_sem]
  have k1 : W0.cell? ⟨w.heap.size, 1, none⟩ = some (.slice A xs.length c) := by rw [hW0]; simp [go_sem]
  have k2 : W0.cell? ⟨w.heap.size, 2, none⟩ = some (.int .i64 u) := by rw [hW0]; simp [go_sem]
  have k3 : W0.cell? ⟨w.heap.size, 3, none⟩ = some (.slice B ys.length d) := by rw [hW0]; simp [go_sem]
  have HX := Bx.mk (hx.below bw)
  have HY := Bx.mk (hy.below bw)
  clear hx hy
  have HS := Bx.mk hs
  have HT := Bx.mk hu
  clear hs hu
  cases h1 : cnOk s xs u ys with
  | false =>
    have HR : Bx (clI s xs u ys = -1) := ⟨by simp [clI, h1]⟩
    go_enter Try.func18, Try.ntmps18
    go_wp2_with fail
    rw [← hW0]
    clear hW0
    refine (implCanonOk_any _ _ _ _ _ _ _ _ _ HS.out HT.out (by exact HX.out) (by exact HY.out)).mono ?_
    rw [h1]
    rintro e w1 ⟨rfl, b⟩
    replace k0 := ((bcell b).1 _ _ (by omega)).trans k0
    replace k1 := ((bcell b).1 _ _ (by omega)).trans k1
    replace k2 := ((bcell b).1 _ _ (by omega)).trans k2
    replace k3 := ((bcell b).1 _ _ (by omega)).trans k3
    replace HX := Bx.mk (HX.out.below b)
    replace HY := Bx.mk (HY.out.below b)
    replace hz := Nat.le_trans hz b.size
    replace bw := bw.trans (b.mono bw.size)
    clear b
    go_wp2_with fail
    go_ret
    exact ⟨ret_int HR.out.symm, bw⟩
  | true =>
    obtain ⟨e1, e2, e3⟩ := twoOk_iff.1 (cnOk_iff.1 h1).1
    subst e3
    have hsz := (rhOk_iff.1 e1).1
    have hsz1 := hsz.1
    have hsz2 := hsz.2
    have HM : Bx (∀ y ∈ ys, 0 ≤ y ∧ y < 24) := ⟨fun y hy => by have := (rhOk_iff.1 e2).2.1 y hy; omega⟩
    have hyl : ys.length ≤ 1000 := Nat.le_trans (rhOk_len e2).1 (by omega)
    have HO1 := Bx.mk e1
    have HO2 := Bx.mk e2
    clear e1 e2
    go_enter Try.func18, Try.ntmps18
    go_wp2_with fail
    rw [← hW0]
    clear hW0
    refine (implCanonOk_any _ _ _ _ _ _ _ _ _ HS.out HT.out (by exact HX.out) (by exact HY.out)).mono ?_
    rw [h1]
    rintro e w1 ⟨rfl, b⟩
    replace k0 := ((bcell b).1 _ _ (by omega)).trans k0
    replace k1 := ((bcell b).1 _ _ (by omega)).trans k1
    replace k2 := ((bcell b).1 _ _ (by omega)).trans k2
    replace k3 := ((bcell b).1 _ _ (by omega)).trans k3
    replace HX := Bx.mk (HX.out.below b)
    replace HY := Bx.mk (HY.out.below b)
    replace hz := Nat.le_trans hz b.size
    replace bw := bw.trans (b.mono bw.size)
    clear b
    go_wp2_with fail
    refine (sumCounts_any _ _ _ _ _ _ _ _ HO1.out HO2.out (by exact HX.out) (by exact HY.out)).mono ?_
    rintro e w2 ⟨A2, c2, rfl, io, b⟩
    have bw2 := bw.trans (b.mono bw.size)
    obtain ⟨L, hL⟩ : ∃ L, L = sumC s xs ys := ⟨_, rfl⟩
    have hLl : L.length = s.toNat := by rw [hL, sumC_len]
    have hll : L.length ≤ 24 := by omega
    have HR : Bx (clI s xs s ys = (cntQ gt1 L L.length : Nat)) := ⟨by rw [hLl, hL]; simp [clI, h1]⟩
    rw [← hL] at io ⊢
    have HI := Bx.mk io.reads
    clear hL hLl b io bw hz HX HY k0 k1 k2 k3
    go_wp2_with fail
    go_loopw [3, 15] (fun v i wr => ∃ k : Nat, k ≤ L.length ∧ i = .int .i64 k ∧ v = .int .i64 (cntQ gt1 L k : Nat) ∧ Below w2.heap.size w2 wr) (fun _ i _ => L.length - (intOf i).toNat)
    case atStart => exact ⟨0, by omega, rfl, rfl, Below.refl _ _⟩
    case round =>
      obtain ⟨k, hk, rfl, rfl, hb⟩ := hrel
      have hir := HI.out.below hb
      have hcl := cntQ_le gt1 L k
      by_cases hlt : k < L.length
      · obtain ⟨b, o, x, rfl, hbk, c1, H3⟩ := hir.one hlt
        have H4 := Bx.mk H3.out
        clear H3
        have hki : (k : Int) < (L.length : Int) := by omega
        cases hq : gt1 x with
        | true =>
          have HN := Bx.mk (cntQ_hit H4.out hq)
          have hx1 : (1 : Int) < x := by simpa [gt1] using hq
          clear hq
          go_wp2_with fail
          go_roundw
          case rel => exact ⟨k + 1, by omega, by go_num, by rw [HN.out]; go_num, hb⟩
          case measure => simp [intOf]; omega
        | false =>
          have HN := Bx.mk (cntQ_miss H4.out hq)
          have hx1 : ¬ (1 : Int) < x := by simpa [gt1] using hq
          clear hq
          go_wp2_with fail
          go_roundw
          case rel => exact ⟨k + 1, by omega, by go_num, by rw [HN.out], hb⟩
          case measure => simp [intOf]; omega
      · have hkl : k = L.length := by omega
        have HR2 : Bx (clI s xs s ys = (cntQ gt1 L k : Nat)) := ⟨by rw [HR.out, hkl]⟩
        have HB := Bx.mk (bw2.trans (hb.mono bw2.size))
        clear hkl
        go_wp2_with fail
        go_ret
        exact ⟨ret_int HR2.out.symm, HB.out⟩
set_option maxHeartbeats 1000000 in
theorem lineOf_any (s u : Int) (A B : Option Addr) (c d : Nat) (xs ys : List Int) (w : World) (hs : -9223372036854775808 ≤ s ∧ s ≤ 9223372036854775807) (hu : -9223372036854775808 ≤ u ∧ u ≤ 9223372036854775807) (hx : IR w A xs) (hy : IR w B ys) :
    Calls Try.prog 53 #[.agg #[.int .i64 s, .slice A xs.length c, .int .i64 u, .slice B ys.length d]] w (GivesInts w (if cnOk s xs u ys = true then lineTo s xs ys s.toNat else [])) := by
  obtain ⟨W0, hW0⟩ : ∃ W0, W0 = w.alloc (.cells #[.int .i64 s, .slice A xs.length c, .int .i64 u, .slice B ys.length d] 31) := ⟨_, rfl⟩
  have bw : Below w.heap.size w W0 := by rw [hW0]; exact below_alloc _ _
  have hz : w.heap.size + 1 ≤ W0.heap.size := by rw [hW0]; simp
  have k0 : W0.cell? ⟨w.heap.size, 0, none⟩ = some (.int .i64 s) := by rw [hW0]; simp [go_sem]
  have k1 : W0.cell? ⟨w.heap.size, 1, none⟩ = some (.slice A xs.length c) := by rw [hW0]; simp [go_sem]
  have k2 : W0.cell? ⟨w.heap.size, 2, none⟩ = some (.int .i64 u) := by rw [hW0]; simp [go_sem]
  have k3 : W0.cell? ⟨w.heap.size, 3, none⟩ = some (.slice B ys.length d) := by rw [hW0]; simp [go_sem]
  have HX := Bx.mk (hx.below bw)
  have HY := Bx.mk (hy.below bw)
  clear hx hy
  have HS := Bx.mk hs
  have HT := Bx.mk hu
  clear hs hu
  cases h1 : cnOk s xs u ys with
  | false =>
    go_enter Try.func53, Try.ntmps53
    go_wp2_with fail
    rw [← hW0]
    clear hW0
    refine (specCanonOk_any _ _ _ _ _ _ _ _ _ HS.out HT.out (by exact HX.out) (by exact HY.out)).mono ?_
    rw [h1]
    rintro e w1 ⟨rfl, b⟩
    replace k0 := ((bcell b).1 _ _ (by omega)).trans k0
    replace k1 := ((bcell b).1 _ _ (by omega)).trans k1
    replace k2 := ((bcell b).1 _ _ (by omega)).trans k2
    replace k3 := ((bcell b).1 _ _ (by omega)).trans k3
    replace HX := Bx.mk (HX.out.below b)
    replace HY := Bx.mk (HY.out.below b)
    replace hz := Nat.le_trans hz b.size
    replace bw := bw.trans (b.mono bw.size)
    clear b
    go_wp2_with fail
    go_ret
    exact GivesInts.of_row (Row.nil _ _) (by simp) bw
  | true =>
    simp only [if_true]
    obtain ⟨e1, e2, e3⟩ := twoOk_iff.1 (cnOk_iff.1 h1).1
    subst e3
    have hsz := (rhOk_iff.1 e1).1
    have hsz1 := hsz.1
    have hsz2 := hsz.2
    have HM : Bx (∀ y ∈ ys, 0 ≤ y ∧ y < 24) := ⟨fun y hy => by have := (rhOk_iff.1 e2).2.1 y hy; omega⟩
    have hyl : ys.length ≤ 1000 := Nat.le_trans (rhOk_len e2).1 (by omega)
    have HO1 := Bx.mk e1
    have HO2 := Bx.mk e2
    clear e1 e2
    go_enter Try.func53, Try.ntmps53
    go_wp2_with fail
    rw [← hW0]
    clear hW0
    refine (specCanonOk_any _ _ _ _ _ _ _ _ _ HS.out HT.out (by exact HX.out) (by exact HY.out)).mono ?_
    rw [h1]
    rintro e w1 ⟨rfl, b⟩
    replace k0 := ((bcell b).1 _ _ (by omega)).trans k0
    replace k1 := ((bcell b).1 _ _ (by omega)).trans k1
    replace k2 := ((bcell b).1 _ _ (by omega)).trans k2
    replace k3 := ((bcell b).1 _ _ (by omega)).trans k3
    replace HX := Bx.mk (HX.out.below b)
    replace HY := Bx.mk (HY.out.below b)
    replace hz := Nat.le_trans hz b.size
    replace bw := bw.trans (b.mono bw.size)
    clear b
    have HRW := Bx.mk (Row.empty w1 w1.heap.size (Nat.le_refl _))
    obtain ⟨w2, hw2⟩ : ∃ w2, w2 = w1.alloc (.cells #[] 3) := ⟨_, rfl⟩
    obtain ⟨BB, hB⟩ : ∃ BB, BB = w1.heap.size := ⟨_, rfl⟩
    have b : Below BB w1 w2 := by rw [hw2, hB]; exact below_alloc _ _
    rw [← hw2, ← hB] at HRW
    have hlt0 : w.heap.size < w1.heap.size := by omega
    go_wp2_with fail
    rw [← hw2, ← hB]
    replace k0 := ((bcell b).1 _ _ (by omega)).trans k0
    replace k1 := ((bcell b).1 _ _ (by omega)).trans k1
    replace k2 := ((bcell b).1 _ _ (by omega)).trans k2
    replace k3 := ((bcell b).1 _ _ (by omega)).trans k3
    have hw2s := b.size
    have hBB1 : BB ≤ w2.heap.size := by omega
    have hwB : w.heap.size < BB := by omega
    have HXB : Bx (RB 0 BB w2 A xs) := ⟨(RB.of_ir HX.out).below b (by omega) |> fun h => ⟨h.1, fun h0 x hx => by have := h.2 h0 x hx; omega⟩⟩
    have HYB : Bx (RB 0 BB w2 B ys) := ⟨(RB.of_ir HY.out).below b (by omega) |> fun h => ⟨h.1, fun h0 x hx => by have := h.2 h0 x hx; omega⟩⟩
    have HBW : Bx (Below w.heap.size w w2) := ⟨bw.trans (b.mono (by omega))⟩
    clear b bw hz HX HY hw2 hB hw2s hlt0
    go_loopw [3, 4] (fun v i wr => ∃ k : Nat, (k : Int) ≤ s ∧ i = .int .i64 k ∧ Row wr BB v (lineTo s xs ys k) ∧ Below BB w2 wr) (fun _ i _ => (s - intOf i).toNat)
    case atStart => exact ⟨0, by omega, rfl, HRW.out, Below.refl _ _⟩
    case round =>
      obtain ⟨k, hk, rfl, hown, hb⟩ := hrel
      clear HRW
      have hlen := Nat.le_of_eq (lineTo_len s xs ys k)
      have q0 := ((bcell hb).1 _ _ (by omega)).trans k0
      have q1 := ((bcell hb).1 _ _ (by omega)).trans k1
      have q2 := ((bcell hb).1 _ _ (by omega)).trans k2
      have q3 := ((bcell hb).1 _ _ (by omega)).trans k3
      have hXr := Bx.mk (HXB.out.below hb (Nat.le_refl _)).ir
      have hYr := Bx.mk (HYB.out.below hb (Nat.le_refl _)).ir
      have hzr := hb.size
      by_cases hlt : (k : Int) < s
      · have HO := Bx.mk hown
        have HB := Bx.mk hb
        clear hown hb
        go_wp2_with fail
        refine (l12At_any _ _ _ _ _ _ _ _ _ _ ⟨hsz1, hsz2⟩ HM.out ⟨by omega, by omega⟩ (by exact hXr.out) (by exact hYr.out) hyl).mono ?_
        rintro e w3 ⟨A3, c3, rfl, io3, b3⟩
        have HO3 := Bx.mk (HO.out.below b3 (Nat.le_refl _))
        have HB3 := Bx.mk (HB.out.trans (b3.mono (by omega)))
        have hz3 := b3.size
        obtain ⟨VL, hVL⟩ : ∃ VL, VL = vatL s xs ys k := ⟨_, rfl⟩
        have HN : Bx (lineTo s xs ys (k + 1) = lineTo s xs ys k ++ [lineV VL]) := ⟨by rw [hVL]; rfl⟩
        have hvl : VL.length ≤ 1000 := by rw [hVL]; exact Nat.le_trans (selTo_len _ _) hyl
        rw [← hVL] at io3 ⊢
        have HI3 := Bx.mk io3.reads
        clear hVL b3 io3
        by_cases e0 : VL.length = 0
        · have HV : Bx (lineV VL = -1) := ⟨by unfold lineV; rw [if_pos e0]⟩
          rw [e0]
          clear e0
          go_wp2_with (at_builtin; go_must (refine wpList_app1 rfl _ _ rfl BB _ (lineTo s xs ys k) (-1) rfl rfl (by exact HO3.out) (by omega) (by omega) ?_); intro v1 w4 hown1 hb1)
          have R := Bx.mk (And.intro hown1 (HB3.out.trans hb1))
          clear hown1 hb1
          go_wp2_with fail
          go_roundw
          case rel => exact ⟨k + 1, by omega, by go_num, by rw [HN.out, HV.out]; exact R.out.1, R.out.2⟩
          case measure => simp [intOf]; omega
        · by_cases e1 : VL.length = 1
          · obtain ⟨b, o, x, rfl, hbk, c1, H3⟩ := HI3.out.one (k := 0) (by omega)
            have H4 := Bx.mk H3.out
            clear H3
            have HV : Bx (lineV VL = x) := ⟨by unfold lineV; rw [if_neg e0, if_pos e1, H4.out]; rfl⟩
            rw [Nat.add_zero] at c1
            rw [e1]
            clear e0 e1
            go_wp2_with (at_builtin; go_must (refine wpList_app1 rfl _ _ rfl BB _ (lineTo s xs ys k) (x) rfl rfl (by exact HO3.out) (by omega) (by omega) ?_); intro v1 w4 hown1 hb1)
            have R := Bx.mk (And.intro hown1 (HB3.out.trans hb1))
            clear hown1 hb1
            go_wp2_with fail
            go_roundw
            case rel => exact ⟨k + 1, by omega, by go_num, by rw [HN.out, HV.out]; exact R.out.1, R.out.2⟩
            case measure => simp [intOf]; omega
          · have HV : Bx (lineV VL = -2) := ⟨by unfold lineV; rw [if_neg e0, if_neg e1]⟩
            have hv0 : ((VL.length : Int) == 0) = false := beq_eq_false_iff_ne.2 (by omega)
            have hv1 : ((VL.length : Int) == 1) = false := beq_eq_false_iff_ne.2 (by omega)
            clear e0 e1
            go_wp2_with (at_builtin; go_must (refine wpList_app1 rfl _ _ rfl BB _ (lineTo s xs ys k) (-2) rfl rfl (by exact HO3.out) (by omega) (by omega) ?_); intro v1 w4 hown1 hb1)
            have R := Bx.mk (And.intro hown1 (HB3.out.trans hb1))
            clear hown1 hb1
            go_wp2_with fail
            go_roundw
            case rel => exact ⟨k + 1, by omega, by go_num, by rw [HN.out, HV.out]; exact R.out.1, R.out.2⟩
            case measure => simp [intOf]; omega
      · have hks : k = s.toNat := by omega
        obtain ⟨A', c', e, hio⟩ := hown.io (by omega)
        subst e
        have HF : Bx (GivesInts w (lineTo s xs ys s.toNat) (.returned (.slice A' (lineTo s xs ys k).length c')) wr) := ⟨by
          rw [← hks]
          exact ⟨A', c', rfl, hio.mono (by omega), HBW.out.trans (hb.mono (by omega))⟩⟩
        clear hks hio hown
        go_wp2_with fail
        go_ret
        exact HF.out
set_option maxHeartbeats 1000000 in
theorem specCl_any (s u : Int) (A B : Option Addr) (c d : Nat) (xs ys : List Int) (w : World) (hs : -9223372036854775808 ≤ s ∧ s ≤ 9223372036854775807) (hu : -9223372036854775808 ≤ u ∧ u ≤ 9223372036854775807) (hx : IR w A xs) (hy : IR w B ys) :
    Calls Try.prog 16 #[.agg #[.int .i64 s, .slice A xs.length c, .int .i64 u, .slice B ys.length d]] w fun e w' => e = .returned (.int .i64 (clI s xs u ys)) ∧ Below w.heap.size w w' := by
  obtain ⟨W0, hW0⟩ : ∃ W0, W0 = w.alloc (.cells #[.int .i64 s, .slice A xs.length c, .int .i64 u, .slice B ys.length d] 31) := ⟨_, rfl⟩
  have bw : Below w.heap.size w W0 := by rw [hW0]; exact below_alloc _ _
  have hz : w.heap.size + 1 ≤ W0.heap.size := by rw [hW0]; simp
  have k0 : W0.cell? ⟨w.heap.size, 0, none⟩ = some (.int .i64 s) := by rw [hW0]; simp [go_sem]
  have k1 : W0.cell? ⟨w.heap.size, 1, none⟩ = some (.slice A xs.length c) := by rw [hW0]; simp [go_sem]
  have k2 : W0.cell? ⟨w.heap.size, 2, none⟩ = some (.int .i64 u) := by rw [hW0]; simp [go_sem]
  have k3 : W0.cell? ⟨w.heap.size, 3, none⟩ = some (.slice B ys.length d) := by rw [hW0]; simp [go_sem]
  have HX := Bx.mk (hx.below bw)
  have HY := Bx.mk (hy.below bw)
  clear hx hy
  have HS := Bx.mk hs
  have HT := Bx.mk hu
  clear hs hu
  cases h1 : cnOk s xs u ys with
  | false =>
    have HR : Bx (clI s xs u ys = -1) := ⟨by simp [clI, h1]⟩
    go_enter Try.func16, Try.ntmps16
    go_wp2_with fail
    rw [← hW0]
    clear hW0
    refine (specCanonOk_any _ _ _ _ _ _ _ _ _ HS.out HT.out (by exact HX.out) (by exact HY.out)).mono ?_
    rw [h1]
    rintro e w1 ⟨rfl, b⟩
    replace k0 := ((bcell b).1 _ _ (by omega)).trans k0
    replace k1 := ((bcell b).1 _ _ (by omega)).trans k1
    replace k2 := ((bcell b).1 _ _ (by omega)).trans k2
    replace k3 := ((bcell b).1 _ _ (by omega)).trans k3
    replace HX := Bx.mk (HX.out.below b)
    replace HY := Bx.mk (HY.out.below b)
    replace hz := Nat.le_trans hz b.size
    replace bw := bw.trans (b.mono bw.size)
    clear b
    go_wp2_with fail
    go_ret
    exact ⟨ret_int HR.out.symm, bw⟩
  | true =>
    obtain ⟨e1, e2, e3⟩ := twoOk_iff.1 (cnOk_iff.1 h1).1
    subst e3
    have hsz := (rhOk_iff.1 e1).1
    have hsz1 := hsz.1
    have hsz2 := hsz.2
    have HM : Bx (∀ y ∈ ys, 0 ≤ y ∧ y < 24) := ⟨fun y hy => by have := (rhOk_iff.1 e2).2.1 y hy; omega⟩
    have hyl : ys.length ≤ 1000 := Nat.le_trans (rhOk_len e2).1 (by omega)
    have HO1 := Bx.mk e1
    have HO2 := Bx.mk e2
    clear e1 e2
    go_enter Try.func16, Try.ntmps16
    go_wp2_with fail
    rw [← hW0]
    clear hW0
    refine (specCanonOk_any _ _ _ _ _ _ _ _ _ HS.out HT.out (by exact HX.out) (by exact HY.out)).mono ?_
    rw [h1]
    rintro e w1 ⟨rfl, b⟩
    replace k0 := ((bcell b).1 _ _ (by omega)).trans k0
    replace k1 := ((bcell b).1 _ _ (by omega)).trans k1
    replace k2 := ((bcell b).1 _ _ (by omega)).trans k2
    replace k3 := ((bcell b).1 _ _ (by omega)).trans k3
    replace HX := Bx.mk (HX.out.below b)
    replace HY := Bx.mk (HY.out.below b)
    replace hz := Nat.le_trans hz b.size
    replace bw := bw.trans (b.mono bw.size)
    clear b
    go_wp2_with fail
    refine (lineOf_any _ _ _ _ _ _ _ _ _ HS.out HT.out (by exact HX.out) (by exact HY.out)).mono ?_
    rw [if_pos h1]
    rintro e w2 ⟨A2, c2, rfl, io, b⟩
    have bw2 := bw.trans (b.mono bw.size)
    obtain ⟨L, hL⟩ : ∃ L, L = lineTo s xs ys s.toNat := ⟨_, rfl⟩
    have hLl : L.length = s.toNat := by rw [hL, lineTo_len]
    have hll : L.length ≤ 24 := by omega
    have HR : Bx (clI s xs s ys = (cntQ eqm2 L L.length : Nat)) := ⟨by rw [hLl, hL, ← clash_same HO1.out HO2.out _ (by omega)]; simp [clI, h1]⟩
    rw [← hL] at io ⊢
    have HI := Bx.mk io.reads
    clear hL hLl b io bw hz HX HY k0 k1 k2 k3
    go_wp2_with fail
    go_loopw [3, 12] (fun v i wr => ∃ k : Nat, k ≤ L.length ∧ i = .int .i64 k ∧ v = .int .i64 (cntQ eqm2 L k : Nat) ∧ Below w2.heap.size w2 wr) (fun _ i _ => L.length - (intOf i).toNat)
    case atStart => exact ⟨0, by omega, rfl, rfl, Below.refl _ _⟩
    case round =>
      obtain ⟨k, hk, rfl, rfl, hb⟩ := hrel
      have hir := HI.out.below hb
      have hcl := cntQ_le eqm2 L k
      by_cases hlt : k < L.length
      · obtain ⟨b, o, x, rfl, hbk, c1, H3⟩ := hir.one hlt
        have H4 := Bx.mk H3.out
        clear H3
        have hki : (k : Int) < (L.length : Int) := by omega
        cases hq : eqm2 x with
        | true =>
          have HN := Bx.mk (cntQ_hit H4.out hq)
          have hx1 : (x == -2) = true := hq
          clear hq
          go_wp2_with fail
          go_roundw
          case rel => exact ⟨k + 1, by omega, by go_num, by rw [HN.out]; go_num, hb⟩
          case measure => simp [intOf]; omega
        | false =>
          have HN := Bx.mk (cntQ_miss H4.out hq)
          have hx1 : (x == -2) = false := hq
          clear hq
          go_wp2_with fail
          go_roundw
          case rel => exact ⟨k + 1, by omega, by go_num, by rw [HN.out], hb⟩
          case measure => simp [intOf]; omega
      · have hkl : k = L.length := by omega
        have HR2 : Bx (clI s xs s ys = (cntQ eqm2 L k : Nat)) := ⟨by rw [HR.out, hkl]⟩
        have HB := Bx.mk (bw2.trans (hb.mono bw2.size))
        clear hkl
        go_wp2_with fail
        go_ret
        exact ⟨ret_int HR2.out.symm, HB.out⟩
end Go.Proofs.Ytmgemafkaddfjaa
