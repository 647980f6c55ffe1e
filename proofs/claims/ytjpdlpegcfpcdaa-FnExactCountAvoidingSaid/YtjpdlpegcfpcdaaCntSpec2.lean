/- The reference's count of the rhythms that avoid an interval: the loops. -/
import Derived.Test.YtjpdlpegcfpcdaaCntSpec
import Derived.Test.YtjpdlpegcfpcdaaApp
import Derived.StillTailTactics
namespace Go.Proofs.Ytjpdlpegcfpcdaa
open Go.RowKit

theorem bump_len (l : List Int) (i : Nat) (x : Int) : (bump l i x).length = l.length := by simp [bump]
theorem inTo_len (m : Int) (a : Nat) (v : Int) (l : List Int) (b : Nat) : (inTo m a v l b).length = l.length := by
  induction b with
  | zero => rfl
  | succ b ih => simp only [inTo, bump_len, ih]
theorem midTo_len (m : Int) (k : Nat) (W : List Int) (a : Nat) : (midTo m k W a).length = k + 1 := by
  induction a with
  | zero => simp [midTo]
  | succ a ih => simp only [midTo, inTo_len, ih]
theorem waysTo_len (m : Int) (k i : Nat) : (waysTo m k i).length = k + 1 := by
  cases i with
  | zero => simp [waysTo]
  | succ i => simp only [waysTo, midTo_len]
set_option maxHeartbeats 1000000 in
theorem specCount_in (n d k : Nat) (h2 : 2 ≤ n) (h16 : n ≤ 16) (hd : 1 ≤ d) (hdn : d < n) (hk : k ≤ n) (w : World) :
    Calls Try.prog 29 #[.int .i64 n, .int .i64 d, .int .i64 k] w fun e w' => e = .returned (.int .i64 (refG n (Nat.gcd n d) k)) ∧ Below w.heap.size w w' := by
  have i1 : inB n 2 16 = true := inB_yes (by omega)
  have i2 : inB d 1 ((n : Int) - 1) = true := inB_yes (by omega)
  have i3 : inB k 0 n = true := inB_yes (by omega)
  have hg := gcdI_bd n d (by omega)
  have hgn := gcdI_bdl n d (by omega)
  have hgg : gcdI n d = (Nat.gcd n d : Nat) := by unfold gcdI; rw [Int.gcd_natCast_natCast]
  generalize Nat.gcd n d = g at *
  rw [hgg] at hg hgn
  have HG : Bx (∀ W, Calls Try.prog 32 #[.int .i64 n, .int .i64 d] W fun e w' => e = .returned (.int .i64 g) ∧ W = w') := ⟨fun W => by
    have := l02Gcd_any n d (by omega) (by omega) (by omega) (by omega) W
    rwa [hgg] at this⟩
  clear hgg
  have hmk := make_ints (k + 1) (by omega)
  simp only [Int.natCast_add, Int.natCast_one] at hmk
  have h0c : (madeCells #[.int .i64 0] (k + 1))[0]? = some (.int .i64 0) := by rw [made_zero]; simp
  have h0s : (0 : Nat) < (madeCells #[.int .i64 0] (k + 1)).size := by rw [made_size]; omega
  go_enter Try.func29, Try.ntmps29
  go_wp2_with (first | (go_at_call 31; refine (l01In_any _ _ _ _).mono ?_; rintro e w' ⟨rfl, rfl⟩) | (go_at_call 32; refine (HG.out _).mono ?_; rintro e w' ⟨rfl, rfl⟩))
  have hH0 : Holds (w.alloc (.cells ((madeCells #[.int .i64 0] (k + 1)).setIfInBounds 0 (.int .i64 1)) 3)) w.heap.size (waysTo ((n : Int) / g) k 0) := by
    have := Blk.new w 3 ((madeCells #[.int .i64 0] (k + 1)).setIfInBounds 0 (.int .i64 1))
    unfold Holds
    rw [show ints (waysTo ((n : Int) / g) k 0) = (List.replicate (k + 1) (Value.int .i64 0)).set 0 (.int .i64 1) by simp [ints, waysTo, List.map_set], ← List.setIfInBounds_toArray, ← made_zero]
    exact this
  have hB0 : Below w.heap.size w (w.alloc (.cells ((madeCells #[.int .i64 0] (k + 1)).setIfInBounds 0 (.int .i64 1)) 3)) := (Below.refl _ _).alloc (Nat.le_refl _) _
  have HC : Bx (∀ b : Nat, b ≤ 16 → ∀ W, Calls Try.prog 37 #[.int .i64 ((n : Int) / g), .int .i64 b] W fun e w' => e = .returned (.int .i64 (l08c ((n : Int) / g) b)) ∧ W = w') := ⟨fun b hb W => by
    have := l08Count_in (n / g) b (Nat.le_trans (Nat.div_le_self _ _) h16) hb W
    rwa [Int.natCast_ediv] at this⟩
  have hm0 : 0 ≤ (n : Int) / g ∧ (n : Int) / g ≤ 16 := ⟨Int.ediv_nonneg (by omega) (by omega), Int.le_trans (Int.ediv_le_self _ (by omega)) (by omega)⟩
  have hRef : Bx (refG n g k = (waysTo ((n : Int) / g) k g)[k]?.getD 0) := ⟨rfl⟩
  generalize hRG : refG n g k = RG at *
  generalize hm : (n : Int) / g = m at *
  generalize hw0 : (w.alloc (.cells ((madeCells #[.int .i64 0] (k + 1)).setIfInBounds 0 (.int .i64 1)) 3)) = w0 at *
  clear hw0 i1 i2 i3 h0c h0s
  go_loopw [8, 9] (fun s v wr => ∃ i gw : Nat, i ≤ g ∧ v = .int .i64 i ∧ s = .slice (some ⟨gw, 0, none⟩) (k + 1) (k + 1) ∧ Holds wr gw (waysTo m k i) ∧ w.heap.size ≤ gw ∧ Below w.heap.size w wr) (fun _ v _ => g - (intOf v).toNat)
  case atStart => exact ⟨0, w.heap.size, by omega, rfl, rfl, hH0, Nat.le_refl _, hB0⟩
  case round =>
    obtain ⟨i, gw, hi, rfl, rfl, hW, hgw, hB⟩ := hrel
    clear hH0 hB0
    by_cases hlt : i < g
    · have hlti : (i : Int) < g := by omega
      go_wp2
      have hWl : (waysTo m k i).length = k + 1 := waysTo_len m k i
      obtain ⟨V, hV⟩ : ∃ V, V = waysTo m k i := ⟨_, rfl⟩
      rw [← hV] at hW hWl
      have HV := Bx.mk hV
      clear hV
      have hN0 := Holds.made wr (k + 1)
      have hW1 := hW.alloc (.cells (madeCells #[.int .i64 0] (k + 1)) 3)
      have hB1 := hB.alloc hB.size (.cells (madeCells #[.int .i64 0] (k + 1)) 3)
      have hwl := hW.lt
      have hwlb := hB.size
      have hgnB : w.heap.size ≤ wr.heap.size := hB.size
      obtain ⟨gn, hgn⟩ : ∃ gn, gn = wr.heap.size := ⟨_, rfl⟩
      rw [← hgn] at hN0 hwl hwlb hgnB ⊢
      have hgn1 : gn < (wr.alloc (.cells (madeCells #[.int .i64 0] (k + 1)) 3)).heap.size := by rw [hgn]; simp
      generalize hw1 : wr.alloc (.cells (madeCells #[.int .i64 0] (k + 1)) 3) = w1 at *
      clear hw1 hgn hW hB
      go_loopw [48] (fun x wm => ∃ a : Nat, a ≤ k + 1 ∧ x = .int .i64 a ∧ Holds wm gn (midTo m k V a) ∧ Holds wm gw V ∧ Below w.heap.size w wm) (fun x _ => k + 1 - (intOf x).toNat)
      case atStart => exact ⟨0, by omega, rfl, hN0, hW1, hB1⟩
      case round =>
        obtain ⟨a, ha, rfl, hN, hW, hB⟩ := hrel
        clear hN0 hW1 hB1
        by_cases hak : a < k + 1
        · have haki : (a : Int) < k + 1 := by omega
          obtain ⟨v, cv, Hv⟩ := hW.cell (k := a) (by omega)
          go_wp2
          go_loopw [13] (fun x wm => ∃ b : Nat, a + b ≤ k + 1 ∧ x = .int .i64 b ∧ Holds wm gn (inTo m a v (midTo m k V a) b) ∧ Holds wm gw V ∧ Below w.heap.size w wm) (fun x _ => k + 1 - (intOf x).toNat)
          case atStart => exact ⟨0, by omega, rfl, hN, hW, hB⟩
          case round =>
            obtain ⟨b, hb, rfl, hN, hW, hB⟩ := hrel
            obtain ⟨L, hL⟩ : ∃ L, L = inTo m a v (midTo m k V a) b := ⟨_, rfl⟩
            rw [← hL] at hN
            have hLl : L.length = k + 1 := by rw [hL, inTo_len, midTo_len]
            have HL := Bx.mk hL
            clear hL cv
            by_cases hlt : a + b ≤ k
            · have hlti : (a : Int) + b ≤ k := by omega
              obtain ⟨y, cy, Hy⟩ := hN.cell (k := a + b) (by omega)
              have f1 := hN.frozen (a + b)
              have hne : gw ≠ gn := by omega
              go_wp2
              have hb16 : b ≤ 16 := by omega
              have s2 : (0 : Int) ≤ (a : Int) + b := by omega
              have s3 : (a : Int) + b < (k : Int) + 1 := by omega
              have s4 : ((a : Int) + (b : Int)).toNat = a + b := by omega
              have s5 : ¬ g = 0 := by omega
              have s6 : IntKind.i64.wrap m = m := IntWalk.i64_in _ (by omega)
              have s1 : IntKind.i64.wrap ((a : Int) + (b : Int)) = (a : Int) + b := IntWalk.i64_in _ (by omega)
              go_still_tail 19, (by kernel_rfl)
              still_call ((HC.out b hb16 _).mono fun _ _ h => ⟨h.1, h.2.symm⟩)
              repeat still_step
              refine wpStill_nil ?_
              clear s1 s6
              change wpList _ _ _ _ _ wr.drew
              go_wp2
              go_roundw
              case rel =>
                refine ⟨b + 1, by omega, by go_num, ?_, (hW.other hne _ : _), (hB.setCell hgnB _).drew⟩
                have hy : inTo m a v (midTo m k V a) (b + 1) = L.set (a + b) (wrap64 (y + wrap64 (v * l08c m b))) := by
                  simp only [inTo, bump]
                  rw [← HL.out, Hy.out]
                  rfl
                rw [hy]
                exact hN.set _ _
              case measure => simp [intOf]; omega
            · have hbk : a + b = k + 1 := by omega
              have hbi : ¬ (a : Int) + b ≤ k := by omega
              have hmid : Bx (midTo m k V (a + 1) = L) := ⟨by
                rw [HL.out]
                simp only [midTo]
                rw [Hv.out, show k + 1 - a = b by omega]
                rfl⟩
              clear hbk
              go_wp2
              go_roundw
              case rel => exact ⟨a + 1, by omega, by go_num, by rw [hmid.out]; exact hN, hW, hB⟩
              case measure => simp [intOf]; omega
        · have hak1 : a = k + 1 := by omega
          have hak2 : ¬ (a : Int) < k + 1 := by omega
          have hN1 : Bx (Holds wr gn (waysTo m k (i + 1))) := ⟨by simp only [waysTo]; rw [← HV.out, ← hak1]; exact hN⟩
          clear hak1 hN
          go_wp2
          go_roundw
          case rel => exact ⟨i + 1, gn, by omega, by go_num, rfl, hN1.out, hgnB, hB⟩
          case measure => simp [intOf]; omega
    · have hig : i = g := by omega
      subst hig
      have hWl : (waysTo m k i).length = k + 1 := waysTo_len m k i
      obtain ⟨x, cx, Hx⟩ := hW.cell (k := k) (by omega)
      have hkk : (k : Int) < (k : Int) + 1 := by omega
      have HF : Bx ((waysTo m k i)[k]?.getD 0 = x) := ⟨by rw [Hx.out]; rfl⟩
      go_wp2
      go_ret
      exact ⟨ret_int (HF.out.symm.trans (hRef.out.symm.trans hRG.symm)), hB⟩

def refI (n d k : Int) : Int := if inB n 2 16 = true ∧ inB d 1 (n - 1) = true ∧ inB k 0 n = true then refG n.toNat (Nat.gcd n.toNat d.toNat) k.toNat else -1
set_option maxHeartbeats 400000 in
theorem specCount_any (n d k : Int) (w : World) :
    Calls Try.prog 29 #[.int .i64 n, .int .i64 d, .int .i64 k] w fun e w' => e = .returned (.int .i64 (refI n d k)) ∧ Below w.heap.size w w' := by
  by_cases h1 : inB n 2 16 = true
  · by_cases h2 : inB d 1 (n - 1) = true
    · by_cases h3 : inB k 0 n = true
      · have b1 := inB_iff.1 h1; have b2 := inB_iff.1 h2; have b3 := inB_iff.1 h3
        have hv : refI n d k = refG n.toNat (Nat.gcd n.toNat d.toNat) k.toNat := by simp [refI, h1, h2, h3]
        rw [hv]
        obtain ⟨n', rfl⟩ := Int.eq_ofNat_of_zero_le (show 0 ≤ n by omega)
        obtain ⟨d', rfl⟩ := Int.eq_ofNat_of_zero_le (show 0 ≤ d by omega)
        obtain ⟨k', rfl⟩ := Int.eq_ofNat_of_zero_le (show 0 ≤ k by omega)
        simp only [Int.toNat_natCast]
        exact specCount_in n' d' k' (by omega) (by omega) (by omega) (by omega) (by omega) w
      · rw [Bool.not_eq_true] at h3
        have HR : Bx (refI n d k = -1) := ⟨by simp [refI, h3]⟩
        have b1 := inB_iff.1 h1
        go_enter Try.func29, Try.ntmps29
        go_wp2_with (go_at_call 31; refine (l01In_any _ _ _ _).mono ?_; rintro e w' ⟨rfl, rfl⟩)
        go_ret
        exact ⟨ret_int HR.out.symm, Below.refl _ _⟩
    · rw [Bool.not_eq_true] at h2
      have HR : Bx (refI n d k = -1) := ⟨by simp [refI, h2]⟩
      have b1 := inB_iff.1 h1
      go_enter Try.func29, Try.ntmps29
      go_wp2_with (go_at_call 31; refine (l01In_any _ _ _ _).mono ?_; rintro e w' ⟨rfl, rfl⟩)
      go_ret
      exact ⟨ret_int HR.out.symm, Below.refl _ _⟩
  · rw [Bool.not_eq_true] at h1
    have HR : Bx (refI n d k = -1) := ⟨by simp [refI, h1]⟩
    go_enter Try.func29, Try.ntmps29
    go_wp2_with (go_at_call 31; refine (l01In_any _ _ _ _).mono ?_; rintro e w' ⟨rfl, rfl⟩)
    go_ret
    exact ⟨ret_int HR.out.symm, Below.refl _ _⟩
end Go.Proofs.Ytjpdlpegcfpcdaa
