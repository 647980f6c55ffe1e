/- The cyclotomic polynomials. -/
import Derived.Test.YtbgfhbaaacmndaaDiv
import Derived.Test.YtbgfhbaaacmndaaBas
import Derived.Deep.DeepCutAuto
namespace Go.Proofs.Ytbgfhbaaacmndaa
open Go.RowKit

theorem cyc_cells (n : Nat) : ((madeCells #[.int .i64 0] (n + 1)).setIfInBounds 0 (.int .i64 (-1))).setIfInBounds n (.int .i64 1) = (ints (cycInit n)).toArray := by
  rw [made_zero, List.setIfInBounds_toArray, List.setIfInBounds_toArray]
  congr 1
  simp [cycInit, ints, List.map_set]
theorem cyc_swap {n : Nat} (h1 : 1 ≤ n) {X : Array Value} {u v : Value} : (X.setIfInBounds n u).setIfInBounds 0 v = (X.setIfInBounds 0 v).setIfInBounds n u := by
  rw [Array.setIfInBounds_comm]
  omega
theorem cyc_le {n : Nat} (h1 : 1 ≤ n) (h : n ≤ 24) : (cyc n).length ≤ 25 := by
  have := (cyc_step (n := n) (d := n) h1 (Nat.le_refl _) h).2.2.2.2
  exact this
theorem quot_cyc {n d : Nat} (hd : 1 ≤ d) (hdn : d < n) (h : n ≤ 24) (h0 : n % d = 0) : quotI (cycB cycT n d) (cyc d) = cycB cycT n (d + 1) ∧ quotS (cycB cycT n d) (cyc d) = cycB cycT n (d + 1) := by
  have hs := cyc_step hd (Nat.le_of_lt hdn) h
  have := quot_same (a := cycB cycT n d) (b := cyc d) hs.2.2.2.1 hs.2.2.1 (by decide)
  exact ⟨by rw [this, cyc_next hd h0], (cyc_next hd h0).symm⟩
set_option maxHeartbeats 2000000 in
theorem cyclotomic_any : ∀ (N n : Nat) (W0 : World), n ≤ N → 1 ≤ n → n ≤ 24 →
    Calls Try.prog 107 #[.int .i64 n] W0 (GivesIS W0 (cyc n)) := by
  intro N
  induction N with
  | zero => intro n W0 h h1 _; omega
  | succ N ih =>
    intro n W0 hN h1 h24
    have HI := Bx.mk ih
    clear ih
    have hmk := make_ints (n + 1) (by omega)
    rw [show ((n + 1 : Nat) : Int) = (n : Int) + 1 by omega] at hmk
    obtain ⟨g, hg⟩ : ∃ g, g = W0.heap.size := ⟨_, rfl⟩
    obtain ⟨w1, hw1⟩ : ∃ w1, w1 = W0.alloc (.cells (madeCells #[.int .i64 0] (n + 1)) 3) := ⟨_, rfl⟩
    have hgW : W0.heap.size ≤ g := by omega
    have b1 : Below W0.heap.size W0 w1 := by rw [hw1]; exact below_alloc _ _
    have hM : Holds w1 g (List.replicate (n + 1) 0) := by rw [hw1, hg]; exact Holds.made W0 (n + 1)
    have c0 : w1.cell? ⟨g, 0, none⟩ = some (.int .i64 0) := by obtain ⟨z, c, H⟩ := hM.cell (k := 0) (by simp); have := H.out; rw [List.getElem?_replicate_of_lt (by omega)] at this; cases this; exact c
    have f0 := hM.frozen 0
    have hM2 := hM.set 0 (-1)
    have c2 : (w1.setCell ⟨g, 0, none⟩ (.int .i64 (-1))).cell? ⟨g, n, none⟩ = some (.int .i64 0) := by
      obtain ⟨z, c, H⟩ := hM2.cell (k := n) (by simp)
      have := H.out
      rw [List.getElem?_set_ne (by omega), List.getElem?_replicate_of_lt (by omega)] at this
      cases this; exact c
    have f2 := hM2.frozen n
    have hM3 : Holds ((w1.setCell ⟨g, 0, none⟩ (.int .i64 (-1))).setCell ⟨g, n, none⟩ (.int .i64 1)) g (cycInit n) := hM2.set n 1
    obtain ⟨w2, hw2⟩ : ∃ w2, w2 = (w1.setCell ⟨g, 0, none⟩ (.int .i64 (-1))).setCell ⟨g, n, none⟩ (.int .i64 1) := ⟨_, rfl⟩
    have HB0 : Bx (Below W0.heap.size W0 w2) := ⟨by rw [hw2]; exact (b1.setCell (p := ⟨g, 0, none⟩) hgW _).setCell (p := ⟨g, n, none⟩) hgW _⟩
    have hLn : (cycInit n).length = n + 1 := by simp [cycInit]
    have HI0 : Bx (IO w2 W0.heap.size (some ⟨g, 0, none⟩) (n + 1) (cycB cycT n 1)) := ⟨by
      have hio := hM3.io (base := W0.heap.size) hgW (by omega)
      rw [hLn] at hio
      rw [cyc_one, hw2]
      exact hio⟩
    have HL0 : Bx ((cycB cycT n 1).length = n + 1) := ⟨by rw [cyc_one]; exact hLn⟩
    have hn0 : ¬ n = 0 := by omega
    clear hM hM2 hM3 hLn b1
    go_enter Try.func107, Try.ntmps107
    go_upto_region 2 with (fail)
    rw [← hw1, ← hg]
    clear hw1 hg hmk
    go_wp2_with fail
    all_goals
      rw [← hw2]
      clear hw2 c0 c2 f0 f2
      go_loopw [3, 4] (fun q i wr => ∃ d g c : Nat, 1 ≤ d ∧ d ≤ n ∧ q = .slice (some ⟨g, 0, none⟩) (cycB cycT n d).length c ∧ i = .int .i64 d ∧ IO wr W0.heap.size (some ⟨g, 0, none⟩) c (cycB cycT n d) ∧ Below W0.heap.size W0 wr) (fun _ i _ => n - (intOf i).toNat)
      case atStart => exact ⟨1, g, n + 1, Nat.le_refl _, h1, by rw [HL0.out], rfl, HI0.out, HB0.out⟩
      case round =>
        obtain ⟨d, g, c, hd1, hdn, rfl, rfl, io, hb⟩ := hrel
        clear HI0 HB0
        have hs := cyc_step hd1 hdn h24
        have hla : (cycB cycT n d).length ≤ 1000 := by omega
        have hlb1 := hs.2.2.2.1
        have hlb2 : (cyc d).length ≤ 1000 := by omega
        clear hs
        by_cases hlt : d < n
        · have hli : (d : Int) < n := by omega
          have e0 : ((n : Int) % (d : Int)) = ((n % d : Nat) : Int) := (Int.natCast_emod n d).symm
          by_cases h0 : n % d = 0
          · have hdb : ((n : Int) % (d : Int) == 0) = true := by rw [e0, h0]; rfl
            have HQ : Bx (quotI (cycB cycT n d) (cyc d) = cycB cycT n (d + 1)) := ⟨(quot_cyc hd1 hlt h24 h0).1⟩
            clear h0 e0
            obtain ⟨X, hX⟩ : ∃ X, X = cycB cycT n d := ⟨_, rfl⟩
            rw [← hX] at io HQ hla ⊢
            clear hX
            have HIO := Bx.mk io
            have HB := Bx.mk hb
            have hzb := hb.size
            clear io hb
            go_wp2_with fail
            refine (HI.out d _ (by omega) hd1 (by omega)).mono ?_
            rintro e w3 ⟨g3, c3, rfl, io3, b3⟩
            have hio3 := HIO.out.below b3 (Nat.le_refl _)
            go_wp2_with fail
            refine (divided_any _ _ _ _ _ _ _ _ hla hlb1 hlb2 (by exact hio3.reads) (by exact io3.reads)).mono ?_
            rintro e w4 ⟨g4, c4, g5, c5, rfl, io4, _, b4⟩
            have hz3 := b3.size
            have HF := Bx.mk (io4.mono (show W0.heap.size ≤ w3.heap.size by omega))
            have HBF := Bx.mk (HB.out.trans ((b3.trans (b4.mono b3.size)).mono hzb))
            rw [HQ.out] at HF ⊢
            obtain ⟨Y, hY⟩ : ∃ Y, Y = cycB cycT n (d + 1) := ⟨_, rfl⟩
            rw [← hY] at HF ⊢
            have HY := Bx.mk hY
            clear hY io3 b3 hio3 io4 b4 HQ hdb
            go_wp2_with fail
            go_roundw
            case rel => exact ⟨d + 1, g4, c4, by omega, by omega, by rw [← HY.out], by go_num, by rw [← HY.out]; exact HF.out, HBF.out⟩
            case measure => first | (simp [intOf]; done) | (simp [intOf]; omega)
          · have hdb : ((n : Int) % (d : Int) == 0) = false := by rw [e0]; simp; omega
            have HQ : Bx (cycB cycT n (d + 1) = cycB cycT n d) := ⟨cyc_skip h0⟩
            clear h0 e0
            go_wp2_with fail
            go_roundw
            case rel => exact ⟨d + 1, g, c, by omega, by omega, by rw [HQ.out], by go_num, by rw [HQ.out]; exact io, hb⟩
            case measure => first | (simp [intOf]; done) | (simp [intOf]; omega)
        · have hdn2 : d = n := by omega
          have HE : Bx (cyc n = cycB cycT n d) := ⟨by rw [hdn2]; exact (cyc_eq h1 h24).symm⟩
          clear hdn2
          go_wp2_with fail
          go_ret
          rw [HE.out]
          exact ⟨g, c, rfl, io, hb⟩
set_option maxHeartbeats 2000000 in
theorem l10Cyclotomic_any : ∀ (N n : Nat) (W0 : World), n ≤ N → 1 ≤ n → n ≤ 24 →
    Calls Try.prog 104 #[.int .i64 n] W0 (GivesIS W0 (cyc n)) := by
  intro N
  induction N with
  | zero => intro n W0 h h1 _; omega
  | succ N ih =>
    intro n W0 hN h1 h24
    have HI := Bx.mk ih
    clear ih
    have hmk := make_ints (n + 1) (by omega)
    rw [show ((n + 1 : Nat) : Int) = (n : Int) + 1 by omega] at hmk
    obtain ⟨g, hg⟩ : ∃ g, g = W0.heap.size := ⟨_, rfl⟩
    obtain ⟨w1, hw1⟩ : ∃ w1, w1 = W0.alloc (.cells (madeCells #[.int .i64 0] (n + 1)) 3) := ⟨_, rfl⟩
    have hgW : W0.heap.size ≤ g := by omega
    have b1 : Below W0.heap.size W0 w1 := by rw [hw1]; exact below_alloc _ _
    have hM : Holds w1 g (List.replicate (n + 1) 0) := by rw [hw1, hg]; exact Holds.made W0 (n + 1)
    have c0 : w1.cell? ⟨g, 0, none⟩ = some (.int .i64 0) := by obtain ⟨z, c, H⟩ := hM.cell (k := 0) (by simp); have := H.out; rw [List.getElem?_replicate_of_lt (by omega)] at this; cases this; exact c
    have f0 := hM.frozen 0
    have hM2 := hM.set 0 (-1)
    have c2 : (w1.setCell ⟨g, 0, none⟩ (.int .i64 (-1))).cell? ⟨g, n, none⟩ = some (.int .i64 0) := by
      obtain ⟨z, c, H⟩ := hM2.cell (k := n) (by simp)
      have := H.out
      rw [List.getElem?_set_ne (by omega), List.getElem?_replicate_of_lt (by omega)] at this
      cases this; exact c
    have f2 := hM2.frozen n
    have hM3 : Holds ((w1.setCell ⟨g, 0, none⟩ (.int .i64 (-1))).setCell ⟨g, n, none⟩ (.int .i64 1)) g (cycInit n) := hM2.set n 1
    obtain ⟨w2, hw2⟩ : ∃ w2, w2 = (w1.setCell ⟨g, 0, none⟩ (.int .i64 (-1))).setCell ⟨g, n, none⟩ (.int .i64 1) := ⟨_, rfl⟩
    have HB0 : Bx (Below W0.heap.size W0 w2) := ⟨by rw [hw2]; exact (b1.setCell (p := ⟨g, 0, none⟩) hgW _).setCell (p := ⟨g, n, none⟩) hgW _⟩
    have hLn : (cycInit n).length = n + 1 := by simp [cycInit]
    have HI0 : Bx (IO w2 W0.heap.size (some ⟨g, 0, none⟩) (n + 1) (cycB cycT n 1)) := ⟨by
      have hio := hM3.io (base := W0.heap.size) hgW (by omega)
      rw [hLn] at hio
      rw [cyc_one, hw2]
      exact hio⟩
    have HL0 : Bx ((cycB cycT n 1).length = n + 1) := ⟨by rw [cyc_one]; exact hLn⟩
    have hn0 : ¬ n = 0 := by omega
    clear hM hM2 hM3 hLn b1
    go_enter Try.func104, Try.ntmps104
    go_upto_region 2 with (fail)
    rw [← hw1, ← hg]
    clear hw1 hg hmk
    go_wp2_with fail
    all_goals
      rw [← hw2]
      clear hw2 c0 c2 f0 f2
      go_loopw [3, 4] (fun q i wr => ∃ d g c : Nat, 1 ≤ d ∧ d ≤ n ∧ q = .slice (some ⟨g, 0, none⟩) (cycB cycT n d).length c ∧ i = .int .i64 d ∧ IO wr W0.heap.size (some ⟨g, 0, none⟩) c (cycB cycT n d) ∧ Below W0.heap.size W0 wr) (fun _ i _ => n - (intOf i).toNat)
      case atStart => exact ⟨1, g, n + 1, Nat.le_refl _, h1, by rw [HL0.out], rfl, HI0.out, HB0.out⟩
      case round =>
        obtain ⟨d, g, c, hd1, hdn, rfl, rfl, io, hb⟩ := hrel
        clear HI0 HB0
        have hs := cyc_step hd1 hdn h24
        have hla : (cycB cycT n d).length ≤ 1000 := by omega
        have hlb1 := hs.2.2.2.1
        have hlb2 : (cyc d).length ≤ 1000 := by omega
        clear hs
        by_cases hlt : d < n
        · have hli : (d : Int) < n := by omega
          have e0 : ((n : Int) % (d : Int)) = ((n % d : Nat) : Int) := (Int.natCast_emod n d).symm
          by_cases h0 : n % d = 0
          · have hdb : ((n : Int) % (d : Int) == 0) = true := by rw [e0, h0]; rfl
            have HQ : Bx (quotS (cycB cycT n d) (cyc d) = cycB cycT n (d + 1)) := ⟨(quot_cyc hd1 hlt h24 h0).2⟩
            clear h0 e0
            obtain ⟨X, hX⟩ : ∃ X, X = cycB cycT n d := ⟨_, rfl⟩
            rw [← hX] at io HQ hla ⊢
            clear hX
            have HIO := Bx.mk io
            have HB := Bx.mk hb
            have hzb := hb.size
            clear io hb
            go_wp2_with fail
            refine (HI.out d _ (by omega) hd1 (by omega)).mono ?_
            rintro e w3 ⟨g3, c3, rfl, io3, b3⟩
            have hio3 := HIO.out.below b3 (Nat.le_refl _)
            go_wp2_with fail
            refine (l10Divide_any _ _ _ _ _ _ _ _ hla hlb1 hlb2 (by exact hio3.reads) (by exact io3.reads)).mono ?_
            rintro e w4 ⟨g4, c4, g5, c5, rfl, io4, _, b4⟩
            have hz3 := b3.size
            have HF := Bx.mk (io4.mono (show W0.heap.size ≤ w3.heap.size by omega))
            have HBF := Bx.mk (HB.out.trans ((b3.trans (b4.mono b3.size)).mono hzb))
            rw [HQ.out] at HF ⊢
            obtain ⟨Y, hY⟩ : ∃ Y, Y = cycB cycT n (d + 1) := ⟨_, rfl⟩
            rw [← hY] at HF ⊢
            have HY := Bx.mk hY
            clear hY io3 b3 hio3 io4 b4 HQ hdb
            go_wp2_with fail
            go_roundw
            case rel => exact ⟨d + 1, g4, c4, by omega, by omega, by rw [← HY.out], by go_num, by rw [← HY.out]; exact HF.out, HBF.out⟩
            case measure => first | (simp [intOf]; done) | (simp [intOf]; omega)
          · have hdb : ((n : Int) % (d : Int) == 0) = false := by rw [e0]; simp; omega
            have HQ : Bx (cycB cycT n (d + 1) = cycB cycT n d) := ⟨cyc_skip h0⟩
            clear h0 e0
            go_wp2_with fail
            go_roundw
            case rel => exact ⟨d + 1, g, c, by omega, by omega, by rw [HQ.out], by go_num, by rw [HQ.out]; exact io, hb⟩
            case measure => first | (simp [intOf]; done) | (simp [intOf]; omega)
        · have hdn2 : d = n := by omega
          have HE : Bx (cyc n = cycB cycT n d) := ⟨by rw [hdn2]; exact (cyc_eq h1 h24).symm⟩
          clear hdn2
          go_wp2_with fail
          go_ret
          rw [HE.out]
          exact ⟨g, c, rfl, io, hb⟩
end Go.Proofs.Ytbgfhbaaacmndaa
