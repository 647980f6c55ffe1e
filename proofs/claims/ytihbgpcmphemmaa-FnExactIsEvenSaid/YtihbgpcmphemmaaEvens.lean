/- Whether a rhythm has two sizes for each number of steps, and whether it is even. -/
import Derived.Test.YtihbgpcmphemmaaSpans
namespace Go.Proofs.Ytihbgpcmphemmaa
open Go.RowKit

def allTo (p : Nat → Bool) (k : Nat) : Bool := (List.range k).all p
theorem allTo_succ (p : Nat → Bool) (k : Nat) : allTo p (k + 1) = (allTo p k && p k) := by
  unfold allTo; rw [List.range_succ, List.all_append]; simp
theorem allTo_miss {p : Nat → Bool} {k n : Nat} (hk : k < n) (h : p k = false) : allTo p n = false := by
  unfold allTo; rw [List.all_eq_false]; exact ⟨k, List.mem_range.2 hk, by simp [h]⟩
def twoP (s : Int) (xs : List Int) (k : Nat) : Bool := decide (k = 0) || decide ((spanSz s xs k).length = 2)
def twoB (s : Int) (xs : List Int) : Bool := rhOk s xs && (decide (2 ≤ xs.length) && allTo (twoP s xs) xs.length)
def wideL (L : List Int) : Bool := decide (L[L.length - 1]?.getD 0 - L[0]?.getD 0 > 1)
def evnP (s : Int) (xs : List Int) (k : Nat) : Bool := decide (k = 0) || !wideL (spanSz s xs k)
def evnB (s : Int) (xs : List Int) : Bool := rhOk s xs && allTo (evnP s xs) xs.length
set_option maxHeartbeats 2000000 in
theorem implTwo_any (s : Int) (A : Option Addr) (c : Nat) (xs : List Int) (w : World) (hs : -9223372036854775808 ≤ s ∧ s ≤ 9223372036854775807) (hx : IR w A xs) :
    Calls Try.prog 28 #[.agg #[.int .i64 s, .slice A xs.length c]] w fun e w' => e = .returned (.bool (twoB s xs)) ∧ Below w.heap.size w w' := by
  obtain ⟨W0, hW0⟩ : ∃ W0, W0 = w.alloc (.cells #[.int .i64 s, .slice A xs.length c] 26) := ⟨_, rfl⟩
  have bw : Below w.heap.size w W0 := by rw [hW0]; exact below_alloc _ _
  have hz : w.heap.size < W0.heap.size := by rw [hW0]; simp
  have k0 : W0.cell? ⟨w.heap.size, 0, none⟩ = some (.int .i64 s) := by rw [hW0]; simp [go_sem]
  have k1 : W0.cell? ⟨w.heap.size, 1, none⟩ = some (.slice A xs.length c) := by rw [hW0]; simp [go_sem]
  have HX := Bx.mk ((RB.of_ir hx).below bw (Nat.le_refl _))
  have HS := Bx.mk hs
  clear hx hs
  cases h1 : rhOk s xs with
  | false =>
    have HR : Bx (twoB s xs = false) := ⟨by simp [twoB, h1]⟩
    go_enter Try.func28, Try.ntmps28
    go_wp2_with fail
    rw [← hW0]
    clear hW0
    refine (lit_c h1 (implRhythmOk_any _ _ _ _ _ HS.out (by exact HX.out.ir))).mono ?_
    rintro e w1 ⟨rfl, b⟩
    have bw2 := bw.trans (b.mono bw.size)
    clear b
    go_wp2_with fail
    go_ret
    exact ⟨ret_bool HR.out.symm, bw2⟩
  | true =>
    by_cases h2 : 2 ≤ xs.length
    · have hll := (rhOk_len h1).1
      have HR : Bx (twoB s xs = allTo (twoP s xs) xs.length) := ⟨by simp [twoB, h1, h2]⟩
      have h2i : ¬ (xs.length : Int) < 2 := by omega
      go_enter Try.func28, Try.ntmps28
      go_wp2_with fail
      rw [← hW0]
      clear hW0
      refine (lit_c h1 (implRhythmOk_any _ _ _ _ _ HS.out (by exact HX.out.ir))).mono ?_
      clear h1
      rintro e w1 ⟨rfl, b⟩
      replace k0 := ((bcell b).1 _ _ (by omega)).trans k0
      replace k1 := ((bcell b).1 _ _ (by omega)).trans k1
      replace HX := Bx.mk (HX.out.below b (by omega))
      replace hz := Nat.lt_of_lt_of_le hz b.size
      replace bw := bw.trans (b.mono bw.size)
      clear b
      go_wp2_with fail
      clear h2i
      go_loopw [3] (fun v wr => ∃ k : Nat, 1 ≤ k ∧ k ≤ xs.length ∧ v = .int .i64 k ∧ Bx (allTo (twoP s xs) k = true) ∧ Below w1.heap.size w1 wr) (fun v _ => xs.length - (intOf v).toNat)
      case atStart => exact ⟨1, by omega, by omega, rfl, ⟨rfl⟩, Below.refl _ _⟩
      case round =>
        obtain ⟨k, hk1, hk, rfl, HA, hbb⟩ := hrel
        have hzr := hbb.size
        have q0 := ((bcell hbb).1 _ _ (by omega)).trans k0
        have q1 := ((bcell hbb).1 _ _ (by omega)).trans k1
        have HXr := Bx.mk (HX.out.below hbb (by omega)).ir
        have HB := Bx.mk hbb
        clear hbb
        by_cases hlt : k < xs.length
        · have hki : (k : Int) < (xs.length : Int) := by omega
          obtain ⟨L, hL⟩ : ∃ L, L = spanSz s xs k := ⟨_, rfl⟩
          have hLl : L.length ≤ 24 := by rw [hL]; exact spanSz_len _ _ _
          have HSP : Bx (∀ c W, IR W A xs → Calls Try.prog 60 #[.agg #[.int .i64 s, .slice A xs.length c], .int .i64 k] W (GivesInts W L)) := ⟨fun c W h => by rw [hL]; exact implSpanSizes_any s A c xs k W HS.out h⟩
          have HP : Bx (twoP s xs k = decide (L.length = 2)) := ⟨by
            unfold twoP
            rw [show decide (k = 0) = false from decide_eq_false (by omega), hL]; rfl⟩
          clear hL
          go_wp2_with fail
          refine (HSP.out _ _ HXr.out).mono ?_
          rintro e w2 ⟨A2, c2, rfl, io, b⟩
          have HB2 := Bx.mk (HB.out.trans (b.mono hzr))
          clear io b
          by_cases he : L.length = 2
          · have HN : Bx (allTo (twoP s xs) (k + 1) = true) := ⟨by rw [allTo_succ, HA.out, HP.out, he]; rfl⟩
            have hne : (((L.length : Int) != 2)) = false := by simp; omega
            clear he
            go_wp2_with fail
            go_roundw
            case rel => exact ⟨k + 1, by omega, by omega, by go_num, HN, HB2.out⟩
            case measure => simp [intOf]; omega
          · have HN : Bx (twoB s xs = false) := ⟨by rw [HR.out]; exact allTo_miss hlt (by rw [HP.out]; exact decide_eq_false he)⟩
            have hne : (((L.length : Int) != 2)) = true := by simp; omega
            have HF := Bx.mk (bw.trans (HB2.out.mono bw.size))
            clear he
            go_wp2_with fail
            go_ret
            exact ⟨ret_bool HN.out.symm, HF.out⟩
        · have hke : k = xs.length := by omega
          have HN : Bx (twoB s xs = true) := ⟨by rw [HR.out, ← hke]; exact HA.out⟩
          have HF := Bx.mk (bw.trans (HB.out.mono bw.size))
          have hki : ¬ (k : Int) < (xs.length : Int) := by omega
          clear hke
          go_wp2_with fail
          go_ret
          exact ⟨ret_bool HN.out.symm, HF.out⟩
    · have HR : Bx (twoB s xs = false) := ⟨by simp [twoB, h2]⟩
      have h2i : (xs.length : Int) < 2 := by omega
      go_enter Try.func28, Try.ntmps28
      go_wp2_with fail
      rw [← hW0]
      clear hW0
      refine (lit_c h1 (implRhythmOk_any _ _ _ _ _ HS.out (by exact HX.out.ir))).mono ?_
      clear h1
      rintro e w1 ⟨rfl, b⟩
      replace k0 := ((bcell b).1 _ _ (by omega)).trans k0
      replace k1 := ((bcell b).1 _ _ (by omega)).trans k1
      replace HX := Bx.mk (HX.out.below b (by omega))
      replace hz := Nat.lt_of_lt_of_le hz b.size
      replace bw := bw.trans (b.mono bw.size)
      clear b
      go_wp2_with fail
      go_ret
      exact ⟨ret_bool HR.out.symm, bw⟩
set_option maxHeartbeats 2000000 in
theorem specTwo_any (s : Int) (A : Option Addr) (c : Nat) (xs : List Int) (w : World) (hs : -9223372036854775808 ≤ s ∧ s ≤ 9223372036854775807) (hx : IR w A xs) :
    Calls Try.prog 27 #[.agg #[.int .i64 s, .slice A xs.length c]] w fun e w' => e = .returned (.bool (twoB s xs)) ∧ Below w.heap.size w w' := by
  obtain ⟨W0, hW0⟩ : ∃ W0, W0 = w.alloc (.cells #[.int .i64 s, .slice A xs.length c] 26) := ⟨_, rfl⟩
  have bw : Below w.heap.size w W0 := by rw [hW0]; exact below_alloc _ _
  have hz : w.heap.size < W0.heap.size := by rw [hW0]; simp
  have k0 : W0.cell? ⟨w.heap.size, 0, none⟩ = some (.int .i64 s) := by rw [hW0]; simp [go_sem]
  have k1 : W0.cell? ⟨w.heap.size, 1, none⟩ = some (.slice A xs.length c) := by rw [hW0]; simp [go_sem]
  have HX := Bx.mk ((RB.of_ir hx).below bw (Nat.le_refl _))
  have HS := Bx.mk hs
  clear hx hs
  cases h1 : rhOk s xs with
  | false =>
    have HR : Bx (twoB s xs = false) := ⟨by simp [twoB, h1]⟩
    go_enter Try.func27, Try.ntmps27
    go_wp2_with fail
    rw [← hW0]
    clear hW0
    refine (lit_c h1 (specRhythmOk_any _ _ _ _ _ HS.out (by exact HX.out.ir))).mono ?_
    rintro e w1 ⟨rfl, b⟩
    have bw2 := bw.trans (b.mono bw.size)
    clear b
    go_wp2_with fail
    go_ret
    exact ⟨ret_bool HR.out.symm, bw2⟩
  | true =>
    by_cases h2 : 2 ≤ xs.length
    · have hll := (rhOk_len h1).1
      have HR : Bx (twoB s xs = allTo (twoP s xs) xs.length) := ⟨by simp [twoB, h1, h2]⟩
      have h2i : ¬ (xs.length : Int) < 2 := by omega
      go_enter Try.func27, Try.ntmps27
      go_wp2_with fail
      rw [← hW0]
      clear hW0
      refine (lit_c h1 (specRhythmOk_any _ _ _ _ _ HS.out (by exact HX.out.ir))).mono ?_
      clear h1
      rintro e w1 ⟨rfl, b⟩
      replace k0 := ((bcell b).1 _ _ (by omega)).trans k0
      replace k1 := ((bcell b).1 _ _ (by omega)).trans k1
      replace HX := Bx.mk (HX.out.below b (by omega))
      replace hz := Nat.lt_of_lt_of_le hz b.size
      replace bw := bw.trans (b.mono bw.size)
      clear b
      go_wp2_with fail
      clear h2i
      go_loopw [3] (fun v wr => ∃ k : Nat, 1 ≤ k ∧ k ≤ xs.length ∧ v = .int .i64 k ∧ Bx (allTo (twoP s xs) k = true) ∧ Below w1.heap.size w1 wr) (fun v _ => xs.length - (intOf v).toNat)
      case atStart => exact ⟨1, by omega, by omega, rfl, ⟨rfl⟩, Below.refl _ _⟩
      case round =>
        obtain ⟨k, hk1, hk, rfl, HA, hbb⟩ := hrel
        have hzr := hbb.size
        have q0 := ((bcell hbb).1 _ _ (by omega)).trans k0
        have q1 := ((bcell hbb).1 _ _ (by omega)).trans k1
        have HXr := Bx.mk (HX.out.below hbb (by omega)).ir
        have HB := Bx.mk hbb
        clear hbb
        by_cases hlt : k < xs.length
        · have hki : (k : Int) < (xs.length : Int) := by omega
          obtain ⟨L, hL⟩ : ∃ L, L = spanSz s xs k := ⟨_, rfl⟩
          have hLl : L.length ≤ 24 := by rw [hL]; exact spanSz_len _ _ _
          have HSP : Bx (∀ c W, IR W A xs → Calls Try.prog 58 #[.agg #[.int .i64 s, .slice A xs.length c], .int .i64 k] W (GivesInts W L)) := ⟨fun c W h => by rw [hL]; exact specSpanSizes_any s A c xs k W HS.out h⟩
          have HP : Bx (twoP s xs k = decide (L.length = 2)) := ⟨by
            unfold twoP
            rw [show decide (k = 0) = false from decide_eq_false (by omega), hL]; rfl⟩
          clear hL
          go_wp2_with fail
          refine (HSP.out _ _ HXr.out).mono ?_
          rintro e w2 ⟨A2, c2, rfl, io, b⟩
          have HB2 := Bx.mk (HB.out.trans (b.mono hzr))
          clear io b
          by_cases he : L.length = 2
          · have HN : Bx (allTo (twoP s xs) (k + 1) = true) := ⟨by rw [allTo_succ, HA.out, HP.out, he]; rfl⟩
            have hne : (((L.length : Int) != 2)) = false := by simp; omega
            clear he
            go_wp2_with fail
            go_roundw
            case rel => exact ⟨k + 1, by omega, by omega, by go_num, HN, HB2.out⟩
            case measure => simp [intOf]; omega
          · have HN : Bx (twoB s xs = false) := ⟨by rw [HR.out]; exact allTo_miss hlt (by rw [HP.out]; exact decide_eq_false he)⟩
            have hne : (((L.length : Int) != 2)) = true := by simp; omega
            have HF := Bx.mk (bw.trans (HB2.out.mono bw.size))
            clear he
            go_wp2_with fail
            go_ret
            exact ⟨ret_bool HN.out.symm, HF.out⟩
        · have hke : k = xs.length := by omega
          have HN : Bx (twoB s xs = true) := ⟨by rw [HR.out, ← hke]; exact HA.out⟩
          have HF := Bx.mk (bw.trans (HB.out.mono bw.size))
          have hki : ¬ (k : Int) < (xs.length : Int) := by omega
          clear hke
          go_wp2_with fail
          go_ret
          exact ⟨ret_bool HN.out.symm, HF.out⟩
    · have HR : Bx (twoB s xs = false) := ⟨by simp [twoB, h2]⟩
      have h2i : (xs.length : Int) < 2 := by omega
      go_enter Try.func27, Try.ntmps27
      go_wp2_with fail
      rw [← hW0]
      clear hW0
      refine (lit_c h1 (specRhythmOk_any _ _ _ _ _ HS.out (by exact HX.out.ir))).mono ?_
      clear h1
      rintro e w1 ⟨rfl, b⟩
      replace k0 := ((bcell b).1 _ _ (by omega)).trans k0
      replace k1 := ((bcell b).1 _ _ (by omega)).trans k1
      replace HX := Bx.mk (HX.out.below b (by omega))
      replace hz := Nat.lt_of_lt_of_le hz b.size
      replace bw := bw.trans (b.mono bw.size)
      clear b
      go_wp2_with fail
      go_ret
      exact ⟨ret_bool HR.out.symm, bw⟩
set_option maxHeartbeats 2000000 in
theorem implEven_any (s : Int) (A : Option Addr) (c : Nat) (xs : List Int) (w : World) (hs : -9223372036854775808 ≤ s ∧ s ≤ 9223372036854775807) (hx : IR w A xs) :
    Calls Try.prog 30 #[.agg #[.int .i64 s, .slice A xs.length c]] w fun e w' => e = .returned (.bool (evnB s xs)) ∧ Below w.heap.size w w' := by
  obtain ⟨W0, hW0⟩ : ∃ W0, W0 = w.alloc (.cells #[.int .i64 s, .slice A xs.length c] 26) := ⟨_, rfl⟩
  have bw : Below w.heap.size w W0 := by rw [hW0]; exact below_alloc _ _
  have hz : w.heap.size < W0.heap.size := by rw [hW0]; simp
  have k0 : W0.cell? ⟨w.heap.size, 0, none⟩ = some (.int .i64 s) := by rw [hW0]; simp [go_sem]
  have k1 : W0.cell? ⟨w.heap.size, 1, none⟩ = some (.slice A xs.length c) := by rw [hW0]; simp [go_sem]
  have HX := Bx.mk ((RB.of_ir hx).below bw (Nat.le_refl _))
  have HS := Bx.mk hs
  clear hx hs
  cases h1 : rhOk s xs with
  | false =>
    have HR : Bx (evnB s xs = false) := ⟨by simp [evnB, h1]⟩
    go_enter Try.func30, Try.ntmps30
    go_wp2_with fail
    rw [← hW0]
    clear hW0
    refine (lit_c h1 (implRhythmOk_any _ _ _ _ _ HS.out (by exact HX.out.ir))).mono ?_
    rintro e w1 ⟨rfl, b⟩
    have bw2 := bw.trans (b.mono bw.size)
    clear b
    go_wp2_with fail
    go_ret
    exact ⟨ret_bool HR.out.symm, bw2⟩
  | true =>
    have hll := (rhOk_len h1).1
    have HR : Bx (evnB s xs = allTo (evnP s xs) xs.length) := ⟨by simp [evnB, h1]⟩
    have HPOS : Bx (∀ k, 1 ≤ k → k < xs.length → 0 < (spanSz s xs (k : Nat)).length) := ⟨fun k hk1 hk => spanSz_pos h1 (by omega) (by omega)⟩
    go_enter Try.func30, Try.ntmps30
    go_wp2_with fail
    rw [← hW0]
    clear hW0
    refine (lit_c h1 (implRhythmOk_any _ _ _ _ _ HS.out (by exact HX.out.ir))).mono ?_
    clear h1
    rintro e w1 ⟨rfl, b⟩
    replace k0 := ((bcell b).1 _ _ (by omega)).trans k0
    replace k1 := ((bcell b).1 _ _ (by omega)).trans k1
    replace HX := Bx.mk (HX.out.below b (by omega))
    replace hz := Nat.lt_of_lt_of_le hz b.size
    replace bw := bw.trans (b.mono bw.size)
    clear b
    go_wp2_with fail
    go_loopw [3] (fun v wr => ∃ k : Nat, 1 ≤ k ∧ (k ≤ xs.length ∨ k = 1) ∧ v = .int .i64 k ∧ Bx (allTo (evnP s xs) k = true) ∧ Below w1.heap.size w1 wr) (fun v _ => xs.length - (intOf v).toNat)
    case atStart => exact ⟨1, by omega, by omega, rfl, ⟨rfl⟩, Below.refl _ _⟩
    case round =>
      obtain ⟨k, hk1, hk, rfl, HA, hbb⟩ := hrel
      have hzr := hbb.size
      have q0 := ((bcell hbb).1 _ _ (by omega)).trans k0
      have q1 := ((bcell hbb).1 _ _ (by omega)).trans k1
      have HXr := Bx.mk (HX.out.below hbb (by omega)).ir
      have HB := Bx.mk hbb
      have hk24 : k ≤ 24 := by omega
      clear hbb
      by_cases hlt : k < xs.length
      · have hki : (k : Int) < (xs.length : Int) := by omega
        obtain ⟨L, hL⟩ : ∃ L, L = spanSz s xs k := ⟨_, rfl⟩
        have hLl : L.length ≤ 24 := by rw [hL]; exact spanSz_len _ _ _
        have hL0 : 0 < L.length := by rw [hL]; exact HPOS.out k hk1 hlt
        have HLB : Bx (∀ i, i < L.length → -1152 ≤ L[i]?.getD 0 ∧ L[i]?.getD 0 ≤ 1152) := ⟨fun i hi => by rw [List.getElem?_eq_getElem hi]; exact spanSz_bd _ (by rw [← hL]; exact List.getElem_mem hi)⟩
        have HSP : Bx (∀ c W, IR W A xs → Calls Try.prog 60 #[.agg #[.int .i64 s, .slice A xs.length c], .int .i64 k] W (GivesInts W L)) := ⟨fun c W h => by rw [hL]; exact implSpanSizes_any s A c xs k W HS.out h⟩
        have HP : Bx (evnP s xs k = !wideL L) := ⟨by
          unfold evnP
          rw [show decide (k = 0) = false from decide_eq_false (by omega), hL]; rfl⟩
        clear hL
        go_wp2_with fail
        refine (HSP.out _ _ HXr.out).mono ?_
        rintro e w2 ⟨A2, c2, rfl, io, b⟩
        have HB2 := Bx.mk (HB.out.trans (b.mono hzr))
        obtain ⟨bb, oo, rfl, hbk, hc⟩ := io.reads.at_ hL0
        obtain ⟨m, hm⟩ : ∃ m, m = L.length - 1 := ⟨_, rfl⟩
        have cm := hc m (by omega)
        have c0 := hc 0 (by omega)
        rw [Nat.add_zero] at c0
        obtain ⟨hx1, hx2⟩ := HLB.out m (by omega)
        obtain ⟨hy1, hy2⟩ := HLB.out 0 (by omega)
        obtain ⟨x, hx⟩ : ∃ x, x = L[m]?.getD 0 := ⟨_, rfl⟩
        obtain ⟨y, hy⟩ : ∃ y, y = L[0]?.getD 0 := ⟨_, rfl⟩
        have HW : Bx (wideL L = decide (x - y > 1)) := ⟨by unfold wideL; rw [← hm, ← hx, ← hy]⟩
        rw [← hx] at cm hx1 hx2
        rw [← hy] at c0 hy1 hy2
        have hmw : IntKind.i64.wrap ((L.length : Int) - 1) = (m : Int) := (IntWalk.i64_in _ (by omega)).trans (by omega)
        have hmi : (m : Int) < (L.length : Int) := by omega
        have h0i : (0 : Int) < (L.length : Int) := by omega
        have hxy : IntKind.i64.wrap (x - y) = x - y := IntWalk.i64_in _ (by omega)
        clear io b hm hx hy hc
        by_cases hd : x - y > 1
        · have HN : Bx (evnB s xs = false) := ⟨by rw [HR.out]; exact allTo_miss hlt (by rw [HP.out, HW.out]; simp; omega)⟩
          have HF := Bx.mk (bw.trans (HB2.out.mono bw.size))
          go_upto_region 7 with (fail)
          go_quiet (fail)
          go_wp2_with fail
          go_ret
          exact ⟨ret_bool HN.out.symm, bdrewN HF.out _⟩
        · have HN : Bx (allTo (evnP s xs) (k + 1) = true) := ⟨by rw [allTo_succ, HA.out, HP.out, HW.out]; simp; omega⟩
          go_upto_region 7 with (fail)
          go_quiet (fail)
          go_wp2_with fail
          go_roundw
          case rel => exact ⟨k + 1, by omega, by omega, by go_num, HN, bdrewN HB2.out _⟩
          case measure => simp [intOf]; omega
      · have HN : Bx (evnB s xs = true) := ⟨by
          rw [HR.out]
          by_cases e : k ≤ xs.length
          · rw [show xs.length = k by omega]; exact HA.out
          · rw [show xs.length = 0 by omega]; rfl⟩
        have HF := Bx.mk (bw.trans (HB.out.mono bw.size))
        have hki : ¬ (k : Int) < (xs.length : Int) := by omega
        go_wp2_with fail
        go_ret
        exact ⟨ret_bool HN.out.symm, HF.out⟩
set_option maxHeartbeats 2000000 in
theorem specEven_any (s : Int) (A : Option Addr) (c : Nat) (xs : List Int) (w : World) (hs : -9223372036854775808 ≤ s ∧ s ≤ 9223372036854775807) (hx : IR w A xs) :
    Calls Try.prog 29 #[.agg #[.int .i64 s, .slice A xs.length c]] w fun e w' => e = .returned (.bool (evnB s xs)) ∧ Below w.heap.size w w' := by
  obtain ⟨W0, hW0⟩ : ∃ W0, W0 = w.alloc (.cells #[.int .i64 s, .slice A xs.length c] 26) := ⟨_, rfl⟩
  have bw : Below w.heap.size w W0 := by rw [hW0]; exact below_alloc _ _
  have hz : w.heap.size < W0.heap.size := by rw [hW0]; simp
  have k0 : W0.cell? ⟨w.heap.size, 0, none⟩ = some (.int .i64 s) := by rw [hW0]; simp [go_sem]
  have k1 : W0.cell? ⟨w.heap.size, 1, none⟩ = some (.slice A xs.length c) := by rw [hW0]; simp [go_sem]
  have HX := Bx.mk ((RB.of_ir hx).below bw (Nat.le_refl _))
  have HS := Bx.mk hs
  clear hx hs
  cases h1 : rhOk s xs with
  | false =>
    have HR : Bx (evnB s xs = false) := ⟨by simp [evnB, h1]⟩
    go_enter Try.func29, Try.ntmps29
    go_wp2_with fail
    rw [← hW0]
    clear hW0
    refine (lit_c h1 (specRhythmOk_any _ _ _ _ _ HS.out (by exact HX.out.ir))).mono ?_
    rintro e w1 ⟨rfl, b⟩
    have bw2 := bw.trans (b.mono bw.size)
    clear b
    go_wp2_with fail
    go_ret
    exact ⟨ret_bool HR.out.symm, bw2⟩
  | true =>
    have hll := (rhOk_len h1).1
    have HR : Bx (evnB s xs = allTo (evnP s xs) xs.length) := ⟨by simp [evnB, h1]⟩
    have HPOS : Bx (∀ k, 1 ≤ k → k < xs.length → 0 < (spanSz s xs (k : Nat)).length) := ⟨fun k hk1 hk => spanSz_pos h1 (by omega) (by omega)⟩
    go_enter Try.func29, Try.ntmps29
    go_wp2_with fail
    rw [← hW0]
    clear hW0
    refine (lit_c h1 (specRhythmOk_any _ _ _ _ _ HS.out (by exact HX.out.ir))).mono ?_
    clear h1
    rintro e w1 ⟨rfl, b⟩
    replace k0 := ((bcell b).1 _ _ (by omega)).trans k0
    replace k1 := ((bcell b).1 _ _ (by omega)).trans k1
    replace HX := Bx.mk (HX.out.below b (by omega))
    replace hz := Nat.lt_of_lt_of_le hz b.size
    replace bw := bw.trans (b.mono bw.size)
    clear b
    go_wp2_with fail
    go_loopw [3] (fun v wr => ∃ k : Nat, 1 ≤ k ∧ (k ≤ xs.length ∨ k = 1) ∧ v = .int .i64 k ∧ Bx (allTo (evnP s xs) k = true) ∧ Below w1.heap.size w1 wr) (fun v _ => xs.length - (intOf v).toNat)
    case atStart => exact ⟨1, by omega, by omega, rfl, ⟨rfl⟩, Below.refl _ _⟩
    case round =>
      obtain ⟨k, hk1, hk, rfl, HA, hbb⟩ := hrel
      have hzr := hbb.size
      have q0 := ((bcell hbb).1 _ _ (by omega)).trans k0
      have q1 := ((bcell hbb).1 _ _ (by omega)).trans k1
      have HXr := Bx.mk (HX.out.below hbb (by omega)).ir
      have HB := Bx.mk hbb
      have hk24 : k ≤ 24 := by omega
      clear hbb
      by_cases hlt : k < xs.length
      · have hki : (k : Int) < (xs.length : Int) := by omega
        obtain ⟨L, hL⟩ : ∃ L, L = spanSz s xs k := ⟨_, rfl⟩
        have hLl : L.length ≤ 24 := by rw [hL]; exact spanSz_len _ _ _
        have hL0 : 0 < L.length := by rw [hL]; exact HPOS.out k hk1 hlt
        have HLB : Bx (∀ i, i < L.length → -1152 ≤ L[i]?.getD 0 ∧ L[i]?.getD 0 ≤ 1152) := ⟨fun i hi => by rw [List.getElem?_eq_getElem hi]; exact spanSz_bd _ (by rw [← hL]; exact List.getElem_mem hi)⟩
        have HSP : Bx (∀ c W, IR W A xs → Calls Try.prog 58 #[.agg #[.int .i64 s, .slice A xs.length c], .int .i64 k] W (GivesInts W L)) := ⟨fun c W h => by rw [hL]; exact specSpanSizes_any s A c xs k W HS.out h⟩
        have HP : Bx (evnP s xs k = !wideL L) := ⟨by
          unfold evnP
          rw [show decide (k = 0) = false from decide_eq_false (by omega), hL]; rfl⟩
        clear hL
        go_wp2_with fail
        refine (HSP.out _ _ HXr.out).mono ?_
        rintro e w2 ⟨A2, c2, rfl, io, b⟩
        have HB2 := Bx.mk (HB.out.trans (b.mono hzr))
        obtain ⟨bb, oo, rfl, hbk, hc⟩ := io.reads.at_ hL0
        obtain ⟨m, hm⟩ : ∃ m, m = L.length - 1 := ⟨_, rfl⟩
        have cm := hc m (by omega)
        have c0 := hc 0 (by omega)
        rw [Nat.add_zero] at c0
        obtain ⟨hx1, hx2⟩ := HLB.out m (by omega)
        obtain ⟨hy1, hy2⟩ := HLB.out 0 (by omega)
        obtain ⟨x, hx⟩ : ∃ x, x = L[m]?.getD 0 := ⟨_, rfl⟩
        obtain ⟨y, hy⟩ : ∃ y, y = L[0]?.getD 0 := ⟨_, rfl⟩
        have HW : Bx (wideL L = decide (x - y > 1)) := ⟨by unfold wideL; rw [← hm, ← hx, ← hy]⟩
        rw [← hx] at cm hx1 hx2
        rw [← hy] at c0 hy1 hy2
        have hmw : IntKind.i64.wrap ((L.length : Int) - 1) = (m : Int) := (IntWalk.i64_in _ (by omega)).trans (by omega)
        have hmi : (m : Int) < (L.length : Int) := by omega
        have h0i : (0 : Int) < (L.length : Int) := by omega
        have hxy : IntKind.i64.wrap (x - y) = x - y := IntWalk.i64_in _ (by omega)
        clear io b hm hx hy hc
        by_cases hd : x - y > 1
        · have HN : Bx (evnB s xs = false) := ⟨by rw [HR.out]; exact allTo_miss hlt (by rw [HP.out, HW.out]; simp; omega)⟩
          have HF := Bx.mk (bw.trans (HB2.out.mono bw.size))
          go_upto_region 7 with (fail)
          go_quiet (fail)
          go_wp2_with fail
          go_ret
          exact ⟨ret_bool HN.out.symm, bdrewN HF.out _⟩
        · have HN : Bx (allTo (evnP s xs) (k + 1) = true) := ⟨by rw [allTo_succ, HA.out, HP.out, HW.out]; simp; omega⟩
          go_upto_region 7 with (fail)
          go_quiet (fail)
          go_wp2_with fail
          go_roundw
          case rel => exact ⟨k + 1, by omega, by omega, by go_num, HN, bdrewN HB2.out _⟩
          case measure => simp [intOf]; omega
      · have HN : Bx (evnB s xs = true) := ⟨by
          rw [HR.out]
          by_cases e : k ≤ xs.length
          · rw [show xs.length = k by omega]; exact HA.out
          · rw [show xs.length = 0 by omega]; rfl⟩
        have HF := Bx.mk (bw.trans (HB.out.mono bw.size))
        have hki : ¬ (k : Int) < (xs.length : Int) := by omega
        go_wp2_with fail
        go_ret
        exact ⟨ret_bool HN.out.symm, HF.out⟩
end Go.Proofs.Ytihbgpcmphemmaa
