/- Words that many parts of the proof share. -/
import Derived.Test.YtbfaagdcifpcgaaGreatDoorStPl
import Derived.Test.YtbfaagdcifpcgaaGreatDoorSteps
import Derived.Test.YtbfaagdcifpcgaaGreatDoorSizes
import Derived.Test.YtbfaagdcifpcgaaGreatDoorSizesT
import Derived.Test.YtbfaagdcifpcgaaGreatDoorSpans
import Derived.Test.YtbfaagdcifpcgaaGreatDoorRotTo
import Derived.Test.YtbfaagdcifpcgaaGreatDoorTls
import Derived.Test.YtbfaagdcifpcgaaGreatDoorDiff
import Derived.Test.YtbfaagdcifpcgaaGreatDoorAllWithin
import Derived.Test.YtbfaagdcifpcgaaGreatDoorBas
import Derived.Test.YtbfaagdcifpcgaaGreatDoorLawH
import Derived.Test.YtbfaagdcifpcgaaGreatDoorEqSl
import Derived.Lib.Bytealg
import Derived.Laws.Externs
namespace Go.Proofs.YtbfaagdcifpcgaaGreatDoor
open Go.RowKit
set_option maxRecDepth 20000

/- The functions of steps that FnSteps calls, on valid rhythms, walked. -/
set_option linter.unusedSimpArgs false
theorem stepsR_ok {s : Int} {xs : List Int} (h : rhOk s xs = true) : stepsR s xs = stepsTo s xs xs.length := by unfold stepsR; rw [if_pos h]
set_option maxHeartbeats 1000000 in
theorem longest_ok (s : Int) (A : Option Addr) (c : Nat) (xs : List Int) (w : World) (hok : rhOk s xs = true) (hx : IR w A xs) :
    Calls Tryz.prog 6 #[.agg #[.int .i64 s, .slice A xs.length c]] w fun e w' => e = .returned (.int .i64 (if (sizesR s xs).length = 0 then 0 else (sizesR s xs)[(sizesR s xs).length - 1]?.getD 0)) ∧ Below w.heap.size w w' := by
  obtain ⟨⟨hs1, hs2⟩, hxb, _⟩ := rhOk_iff.1 hok
  have HXB := Bx.mk hxb
  have hll := (rhOk_len hok).1
  obtain ⟨W0, hW0⟩ : ∃ W0, W0 = w.alloc (.cells #[.int .i64 s, .slice A xs.length c] 25) := ⟨_, rfl⟩
  have bw : Below w.heap.size w W0 := by rw [hW0]; exact below_alloc _ _
  have hz : w.heap.size < W0.heap.size := by rw [hW0]; simp <;> omega
  have k0 : W0.cell? ⟨w.heap.size, 0, none⟩ = some (.int .i64 s) := by rw [hW0]; simp [go_sem]
  have k1 : W0.cell? ⟨w.heap.size, 1, none⟩ = some (.slice A xs.length c) := by rw [hW0]; simp [go_sem]
  have HX := Bx.mk ((RB.of_ir hx).below bw (Nat.le_refl _))
  have HOK := Bx.mk hok
  have HS : Bx (-9223372036854775808 ≤ s ∧ s ≤ 9223372036854775807) := ⟨by omega⟩
  clear hx hxb
  obtain ⟨L, hL⟩ : ∃ L, L = sizesR s xs := ⟨_, rfl⟩
  have hll2 : L.length ≤ 24 := by rw [hL]; exact sizesR_len _ _
  have HST : Bx (∀ c W, IR W A xs → Calls Tryz.prog 18 #[.agg #[.int .i64 s, .slice A xs.length c]] W (GivesInts W L)) := ⟨fun c W h => by rw [hL]; exact implStepSizes_any s A c xs W HS.out h⟩
  rw [← hL]
  obtain ⟨R, hR⟩ : ∃ R : Int, R = (if L.length = 0 then 0 else L[L.length - 1]?.getD 0) := ⟨_, rfl⟩
  rw [← hR]
  have HRE := Bx.mk hR
  clear hL hok hR
  go_enter Tryz.func6, Tryz.ntmps6
  go_wp2_with fail
  rw [← hW0]
  clear hW0
  refine (HST.out _ _ (by exact HX.out.ir)).mono ?_
  rintro e w1 ⟨A1, c1, rfl, io, b⟩
  have HI := Bx.mk io.reads
  replace bw := bw.trans (b.mono bw.size)
  clear b io
  by_cases h0 : L.length = 0
  · have hb : (((L.length : Nat) : Int) == 0) = true := by rw [beq_iff_eq]; omega
    have HR : Bx (R = 0) := ⟨by rw [HRE.out, if_pos h0]⟩
    clear h0
    go_wp2_with fail
    go_ret
    exact ⟨ret_int HR.out.symm, bw⟩
  · have hb : (((L.length : Nat) : Int) == 0) = false := by rw [beq_eq_false_iff_ne]; omega
    obtain ⟨j, hj⟩ : ∃ j : Nat, j = L.length - 1 := ⟨_, rfl⟩
    have hjl : j < L.length := by omega
    have hji : (j : Int) < (L.length : Int) := by omega
    have hj1 : (L.length : Int) - 1 = (j : Int) := by omega
    obtain ⟨b1, o1, z, rfl, hb1, kz, H3⟩ := HI.out.one (k := j) hjl
    have HR : Bx (R = z) := ⟨by rw [HRE.out, if_neg h0, ← hj, H3.out]; rfl⟩
    skip
    clear h0 H3 hj
    go_wp2_with fail
    go_ret
    exact ⟨ret_int HR.out.symm, bw⟩
set_option maxHeartbeats 1000000 in
theorem shortest_ok (s : Int) (A : Option Addr) (c : Nat) (xs : List Int) (w : World) (hok : rhOk s xs = true) (hx : IR w A xs) :
    Calls Tryz.prog 19 #[.agg #[.int .i64 s, .slice A xs.length c]] w fun e w' => e = .returned (.int .i64 (if (sizesR s xs).length = 0 then 0 else (sizesR s xs)[0]?.getD 0)) ∧ Below w.heap.size w w' := by
  obtain ⟨⟨hs1, hs2⟩, hxb, _⟩ := rhOk_iff.1 hok
  have HXB := Bx.mk hxb
  have hll := (rhOk_len hok).1
  obtain ⟨W0, hW0⟩ : ∃ W0, W0 = w.alloc (.cells #[.int .i64 s, .slice A xs.length c] 25) := ⟨_, rfl⟩
  have bw : Below w.heap.size w W0 := by rw [hW0]; exact below_alloc _ _
  have hz : w.heap.size < W0.heap.size := by rw [hW0]; simp <;> omega
  have k0 : W0.cell? ⟨w.heap.size, 0, none⟩ = some (.int .i64 s) := by rw [hW0]; simp [go_sem]
  have k1 : W0.cell? ⟨w.heap.size, 1, none⟩ = some (.slice A xs.length c) := by rw [hW0]; simp [go_sem]
  have HX := Bx.mk ((RB.of_ir hx).below bw (Nat.le_refl _))
  have HOK := Bx.mk hok
  have HS : Bx (-9223372036854775808 ≤ s ∧ s ≤ 9223372036854775807) := ⟨by omega⟩
  clear hx hxb
  obtain ⟨L, hL⟩ : ∃ L, L = sizesR s xs := ⟨_, rfl⟩
  have hll2 : L.length ≤ 24 := by rw [hL]; exact sizesR_len _ _
  have HST : Bx (∀ c W, IR W A xs → Calls Tryz.prog 18 #[.agg #[.int .i64 s, .slice A xs.length c]] W (GivesInts W L)) := ⟨fun c W h => by rw [hL]; exact implStepSizes_any s A c xs W HS.out h⟩
  rw [← hL]
  obtain ⟨R, hR⟩ : ∃ R : Int, R = (if L.length = 0 then 0 else L[0]?.getD 0) := ⟨_, rfl⟩
  rw [← hR]
  have HRE := Bx.mk hR
  clear hL hok hR
  go_enter Tryz.func19, Tryz.ntmps19
  go_wp2_with fail
  rw [← hW0]
  clear hW0
  refine (HST.out _ _ (by exact HX.out.ir)).mono ?_
  rintro e w1 ⟨A1, c1, rfl, io, b⟩
  have HI := Bx.mk io.reads
  replace bw := bw.trans (b.mono bw.size)
  clear b io
  by_cases h0 : L.length = 0
  · have hb : (((L.length : Nat) : Int) == 0) = true := by rw [beq_iff_eq]; omega
    have HR : Bx (R = 0) := ⟨by rw [HRE.out, if_pos h0]⟩
    clear h0
    go_wp2_with fail
    go_ret
    exact ⟨ret_int HR.out.symm, bw⟩
  · have hb : (((L.length : Nat) : Int) == 0) = false := by rw [beq_eq_false_iff_ne]; omega
    obtain ⟨j, hj⟩ : ∃ j : Nat, j = 0 := ⟨_, rfl⟩
    have hjl : j < L.length := by omega
    have hji : (j : Int) < (L.length : Int) := by omega
    skip
    obtain ⟨b1, o1, z, rfl, hb1, kz, H3⟩ := HI.out.one (k := j) hjl
    have HR : Bx (R = z) := ⟨by rw [HRE.out, if_neg h0, ← hj, H3.out]; rfl⟩
    have kz0 : w1.cell? ⟨b1, o1, none⟩ = some (.int .i64 z) := by have h9 := kz; rw [hj] at h9; exact h9
    have hpos : (0 : Int) < (L.length : Int) := by omega
    clear h0 H3 hj
    go_wp2_with fail
    go_ret
    exact ⟨ret_int HR.out.symm, bw⟩
set_option maxHeartbeats 1000000 in
theorem rests_ok (s : Int) (A : Option Addr) (c : Nat) (xs : List Int) (w : World) (hok : rhOk s xs = true) (hx : IR w A xs) :
    Calls Tryz.prog 7 #[.agg #[.int .i64 s, .slice A xs.length c]] w fun e w' => e = .returned (.int .i64 (reTo (stepsTo s xs xs.length) xs.length : Nat)) ∧ Below w.heap.size w w' := by
  obtain ⟨⟨hs1, hs2⟩, hxb, _⟩ := rhOk_iff.1 hok
  have HXB := Bx.mk hxb
  have hll := (rhOk_len hok).1
  obtain ⟨W0, hW0⟩ : ∃ W0, W0 = w.alloc (.cells #[.int .i64 s, .slice A xs.length c] 25) := ⟨_, rfl⟩
  have bw : Below w.heap.size w W0 := by rw [hW0]; exact below_alloc _ _
  have hz : w.heap.size < W0.heap.size := by rw [hW0]; simp <;> omega
  have k0 : W0.cell? ⟨w.heap.size, 0, none⟩ = some (.int .i64 s) := by rw [hW0]; simp [go_sem]
  have k1 : W0.cell? ⟨w.heap.size, 1, none⟩ = some (.slice A xs.length c) := by rw [hW0]; simp [go_sem]
  have HX := Bx.mk ((RB.of_ir hx).below bw (Nat.le_refl _))
  have HOK := Bx.mk hok
  have HS : Bx (-9223372036854775808 ≤ s ∧ s ≤ 9223372036854775807) := ⟨by omega⟩
  clear hx hxb
  go_enter Tryz.func7, Tryz.ntmps7
  go_wp2_with fail
  rw [← hW0]
  clear hW0
  refine (lit_b hok (implRhythmOk_any _ _ _ _ _ HS.out (by exact HX.out.ir))).mono ?_
  clear hok
  rintro e w1 ⟨rfl, b⟩
  replace k0 := ((bcell b).1 _ _ (by omega)).trans k0
  replace k1 := ((bcell b).1 _ _ (by omega)).trans k1
  replace HX := Bx.mk (HX.out.below b (by omega))
  replace bw := bw.trans (b.mono bw.size)
  obtain ⟨L, hL⟩ : ∃ L, L = stepsTo s xs xs.length := ⟨_, rfl⟩
  have HLl : Bx (L.length = xs.length) := ⟨by rw [hL, stepsTo_len]⟩
  have HST : Bx (∀ c W, IR W A xs → Calls Tryz.prog 24 #[.agg #[.int .i64 s, .slice A xs.length c]] W (GivesRow W L)) := ⟨fun c W h => by rw [hL]; exact implStepsM_any s A c xs W HOK.out h⟩
  have HR : Bx (reTo (stepsTo s xs xs.length) xs.length = reTo L L.length) := ⟨by rw [HLl.out, hL]⟩
  clear b hL
  go_wp2_with fail
  refine (HST.out _ _ (by exact HX.out.ir)).mono ?_
  rintro e w2 ⟨v, rfl, hr, b⟩
  obtain ⟨A2, c2, rfl, io⟩ := hr.io (by rw [HLl.out]; omega)
  have HI := Bx.mk io.reads
  have hl24 : L.length ≤ 24 := by rw [HLl.out]; exact hll
  replace bw := bw.trans (b.mono bw.size)
  clear b io hr
  go_wp2_with fail
  go_loop [3, 12] (fun cv iv => ∃ k : Nat, k ≤ L.length ∧ iv = .int .i64 k ∧ cv = .int .i64 ((reTo L k : Nat) : Int)) (fun _ iv => L.length - (intOf iv).toNat)
  case atStart => exact ⟨0, by omega, rfl, rfl⟩
  case round =>
    obtain ⟨k, hk, rfl, rfl⟩ := hrel
    obtain ⟨q, hq⟩ : ∃ q : Nat, q = reTo L k := ⟨_, rfl⟩
    have hqb : q ≤ k := by rw [hq]; exact re_bd L k
    by_cases hlt : k < L.length
    · have hkl : (k : Int) < (L.length : Int) := by omega
      obtain ⟨b1, o1, z, rfl, hb1, kz, H3⟩ := HI.out.one (k := k) hlt
      by_cases hz1 : 1 < z
      · have HN : Bx (reTo L (k + 1) = q + 1) := ⟨by simp only [reTo]; rw [H3.out, hq]; simp [hz1]⟩
        rw [← hq]
        clear H3 hq
        go_wp2_with fail
        go_round
        case rel => exact ⟨k + 1, by omega, by go_num, by rw [HN.out]; go_num⟩
        case measure => simp [intOf]; omega
      · have HN : Bx (reTo L (k + 1) = q) := ⟨by simp only [reTo]; rw [H3.out, hq]; simp [hz1]⟩
        rw [← hq]
        clear H3 hq
        go_wp2_with fail
        go_round
        case rel => exact ⟨k + 1, by omega, by go_num, by rw [HN.out]⟩
        case measure => simp [intOf]; omega
    · have hkl : ¬ (k : Int) < (L.length : Int) := by omega
      have HF : Bx (reTo (stepsTo s xs xs.length) xs.length = q) := ⟨by rw [HR.out, hq, show k = L.length by omega]⟩
      rw [← hq]
      clear hq
      go_wp2_with fail
      go_ret
      exact ⟨ret_int (by rw [HF.out]), bw⟩
set_option maxHeartbeats 1000000 in
theorem span_ok (s : Int) (A : Option Addr) (c : Nat) (xs : List Int) (i k : Nat) (w : World) (hok : rhOk s xs = true) (hx : IR w A xs) (hi : i < xs.length) (hk : k ≤ xs.length) :
    Calls Tryz.prog 17 #[.agg #[.int .i64 s, .slice A xs.length c], .int .i64 i, .int .i64 k] w fun e w' => e = .returned (.int .i64 (spanAt (stepsTo s xs xs.length) i k)) ∧ Below w.heap.size w w' := by
  obtain ⟨⟨hs1, hs2⟩, hxb, _⟩ := rhOk_iff.1 hok
  have HXB := Bx.mk hxb
  have hll := (rhOk_len hok).1
  obtain ⟨W0, hW0⟩ : ∃ W0, W0 = w.alloc (.cells #[.int .i64 s, .slice A xs.length c] 25) := ⟨_, rfl⟩
  have bw : Below w.heap.size w W0 := by rw [hW0]; exact below_alloc _ _
  have hz : w.heap.size < W0.heap.size := by rw [hW0]; simp <;> omega
  have k0 : W0.cell? ⟨w.heap.size, 0, none⟩ = some (.int .i64 s) := by rw [hW0]; simp [go_sem]
  have k1 : W0.cell? ⟨w.heap.size, 1, none⟩ = some (.slice A xs.length c) := by rw [hW0]; simp [go_sem]
  have HX := Bx.mk ((RB.of_ir hx).below bw (Nat.le_refl _))
  have HOK := Bx.mk hok
  have HS : Bx (-9223372036854775808 ≤ s ∧ s ≤ 9223372036854775807) := ⟨by omega⟩
  clear hx hxb
  obtain ⟨L, hL⟩ : ∃ L, L = stepsTo s xs xs.length := ⟨_, rfl⟩
  have hLl : L.length = xs.length := by rw [hL, stepsTo_len]
  have HST : Bx (∀ c W, IR W A xs → Calls Tryz.prog 5 #[.agg #[.int .i64 s, .slice A xs.length c]] W (GivesRow W L)) := ⟨fun c W h => by rw [hL, ← stepsR_ok HOK.out]; exact implSteps_any s A c xs W HS.out h⟩
  have HLB : Bx (∀ x ∈ L, -24 ≤ x ∧ x ≤ 48) := ⟨by rw [hL, ← stepsR_ok HOK.out]; exact stepsR_bd⟩
  rw [← hL]
  clear hL hok
  obtain ⟨j, hj⟩ : ∃ j : Nat, j = L.length - 1 := ⟨_, rfl⟩
  have hji : (L.length : Int) - 1 = (j : Int) := by omega
  have hin1 : inB (i : Int) 0 (j : Int) = true := inB_iff.2 ⟨by omega, by omega⟩
  have hin2 : inB (k : Int) 0 (L.length : Int) = true := inB_iff.2 ⟨by omega, by omega⟩
  have hi2 : i < L.length := by omega
  have hk2 : k ≤ L.length := by omega
  have hl24 : L.length ≤ 24 := by omega
  clear hj hLl
  go_enter Tryz.func17, Tryz.ntmps17
  go_wp2_with fail
  rw [← hW0]
  clear hW0
  refine (HST.out _ _ (by exact HX.out.ir)).mono ?_
  rintro e w1 ⟨v, rfl, hr, b⟩
  obtain ⟨A2, c2, rfl, io⟩ := hr.io (by omega)
  have HI := Bx.mk io.reads
  replace bw := bw.trans (b.mono bw.size)
  clear b io hr
  go_wp2_with (go_at_call 27; refine (within_any _ _ _ _).mono ?_; rintro e w' ⟨rfl, rfl⟩)
  refine (spanOf_any _ _ L i k _ HLB.out hl24 hi2 hk2 (by exact HI.out)).mono ?_
  rintro e w' ⟨rfl, rfl⟩
  go_wp2_with fail
  go_ret
  exact ⟨rfl, bw⟩

/- Steps made into rhythms and turned, and rotations, walked. -/
set_option linter.unusedSimpArgs false
set_option maxHeartbeats 400000 in
theorem sumOf_any (A : Option Addr) (c : Nat) (xs : List Int) (w : World) (hb : ∀ x ∈ xs, 0 ≤ x ∧ x ≤ 100000) (hl : xs.length ≤ 1000) (hx : IR w A xs) :
    Calls Tryz.prog 29 #[.slice A xs.length c] w fun e w' => e = .returned (.int .i64 xs.sum) ∧ w = w' := by
  have HX := Bx.mk hx
  have HB := Bx.mk (sum_take_bd hb)
  have HBB := Bx.mk hb
  clear hx hb
  go_enter Tryz.func29, Tryz.ntmps29
  go_wp2_with fail
  go_loop [3, 8] (fun nv iv => ∃ (i : Nat), i ≤ xs.length ∧ iv = .int .i64 i ∧ nv = .int .i64 (xs.take i).sum) (fun _ iv => xs.length - (intOf iv).toNat)
  case atStart => exact ⟨0, by omega, rfl, by simp⟩
  case round =>
    obtain ⟨i, hi, rfl, rfl⟩ := hrel
    have hbi := HB.out i
    by_cases hlt : i < xs.length
    · obtain ⟨b, o, x, rfl, hb, c1, H3⟩ := HX.out.one hlt
      have hxb := HBB.out x (List.mem_of_getElem? H3.out)
      have HS := Bx.mk (sum_take_succ H3.out)
      clear H3
      have hli : (i : Int) < xs.length := by omega
      generalize hq : (xs.take i).sum = q at *
      go_wp2_with fail
      go_round
      case rel => exact ⟨i + 1, by omega, by go_num, by rw [HS.out]⟩
      case measure => simp [intOf]; omega
    · have hie : i = xs.length := by omega
      have HR : Bx ((xs.take i).sum = xs.sum) := ⟨by rw [hie, List.take_length]⟩
      have hli : ¬ (i : Int) < xs.length := by omega
      clear hie
      go_wp2_with fail
      go_ret
      exact ⟨ret_int HR.out, rfl⟩
set_option maxHeartbeats 2000000 in
set_option maxRecDepth 20000 in
theorem rotationTo_ok (n : Nat) (A B : Option Addr) (c d : Nat) (xs ys : List Int) (w : World) (hx : rhOk n xs = true) (hy : rhOk n ys = true) (hrot : rotB n xs ys = true) (hA : IR w A xs) (hB : IR w B ys) :
    Calls Tryz.prog 32 #[.agg #[.int .i64 n, .slice A xs.length c], .agg #[.int .i64 n, .slice B ys.length d]] w fun e w' => ∃ r : Int, 0 ≤ r ∧ e = .returned (.int .i64 r) ∧ Below w.heap.size w w' := by
  obtain ⟨W0, hW0⟩ : ∃ W0, W0 = (w.alloc (.cells #[.int .i64 n, .slice A xs.length c] 25)).alloc (.cells #[.int .i64 n, .slice B ys.length d] 25) := ⟨_, rfl⟩
  have bw : Below w.heap.size w W0 := by rw [hW0]; exact (below_alloc _ _).alloc (by simp) _
  have hz : w.heap.size + 2 ≤ W0.heap.size := by rw [hW0]; simp
  have kga0 : W0.cell? ⟨w.heap.size, 0, none⟩ = some (.int .i64 n) := by rw [hW0]; simp [go_sem]
  have kga1 : W0.cell? ⟨w.heap.size, 1, none⟩ = some (.slice A xs.length c) := by rw [hW0]; simp [go_sem]
  have kgb0 : W0.cell? ⟨w.heap.size + 1, 0, none⟩ = some (.int .i64 n) := by rw [hW0]; simp [go_sem]
  have kgb1 : W0.cell? ⟨w.heap.size + 1, 1, none⟩ = some (.slice B ys.length d) := by rw [hW0]; simp [go_sem]
  have HX := Bx.mk (hA.below bw)
  have HY := Bx.mk (hB.below bw)
  have HXO := Bx.mk hx
  have HYO := Bx.mk hy
  obtain ⟨⟨hn1, hn2⟩, hxb, hxa⟩ := rhOk_iff.1 hx
  have HXB := Bx.mk hxb
  have HSS : Bx (∀ W, IR W A xs → IR W B ys → Calls Tryz.prog 47 #[.agg #[.int .i64 n, .slice A xs.length c], .agg #[.int .i64 n, .slice B ys.length d]] W fun e w' => e = .returned (.bool true) ∧ Below W.heap.size W w') := ⟨fun W h1 h2 => lit_b (twoOk_iff.2 ⟨HXO.out, HYO.out, rfl⟩) (implSame_any _ _ _ _ _ _ _ _ _ ⟨by omega, by omega⟩ ⟨by omega, by omega⟩ h1 h2)⟩
  obtain ⟨ga, hga⟩ : ∃ ga, ga = w.heap.size := ⟨_, rfl⟩
  obtain ⟨gb, hgb⟩ : ∃ gb, gb = w.heap.size + 1 := ⟨_, rfl⟩
  have lt_ga : ga < W0.heap.size := by omega
  have lt_gb : gb < W0.heap.size := by omega
  rw [← hga] at kga0 kga1
  rw [← hgb] at kgb0 kgb1
  have HRT : Bx (∀ W, IR W A xs → IR W B ys → Calls Tryz.prog 48 #[.agg #[.int .i64 n, .slice A xs.length c], .agg #[.int .i64 n, .slice B ys.length d]] W fun e w' => ∃ r : Int, 0 ≤ r ∧ e = .returned (.int .i64 r) ∧ Below W.heap.size W w') := ⟨fun W h1 h2 => by
    have hl := (rhOk_len HXO.out).1
    refine (implRotTo_any n A B c d xs ys W ⟨by omega, by omega⟩ (fun x hx => by have := HXB.out x hx; omega) (by omega) h1 h2).mono ?_
    rintro e w' ⟨r, rfl, hr, b⟩
    exact ⟨r, hr.out.1 hrot, rfl, b⟩⟩
  clear hx hy hA hB hxb hxa hrot
  go_enter Tryz.func32, Tryz.ntmps32
  go_wp2_with fail
  rw [← hW0, ← hgb, ← hga]
  clear hW0 hga hgb
  refine (HSS.out _ (by exact HX.out) (by exact HY.out)).mono ?_
  rintro e w1 ⟨rfl, b⟩
  replace kga0 := ((bcell b).1 _ _ lt_ga).trans kga0
  replace kga1 := ((bcell b).1 _ _ lt_ga).trans kga1
  replace kgb0 := ((bcell b).1 _ _ lt_gb).trans kgb0
  replace kgb1 := ((bcell b).1 _ _ lt_gb).trans kgb1
  replace HX := Bx.mk (HX.out.below b)
  replace HY := Bx.mk (HY.out.below b)
  replace bw := bw.trans (b.mono bw.size)
  clear b
  go_wp2_with fail
  refine (HRT.out _ (by exact HX.out) (by exact HY.out)).mono ?_
  rintro e w2 ⟨r, hr, rfl, b⟩
  replace bw := bw.trans (b.mono bw.size)
  clear b
  go_wp2_with fail
  go_ret
  exact ⟨r, hr, rfl, bw⟩
set_option maxHeartbeats 2000000 in
set_option maxRecDepth 20000 in
theorem rotations_ok (n : Nat) (A B : Option Addr) (c d : Nat) (xs ys : List Int) (w : World) (hx : rhOk n xs = true) (hy : rhOk n ys = true) (hrot : rotB n xs ys = true) (hA : IR w A xs) (hB : IR w B ys) :
    Calls Tryz.prog 15 #[.agg #[.int .i64 n, .slice A xs.length c], .agg #[.int .i64 n, .slice B ys.length d]] w fun e w' => e = .returned (.bool true) ∧ Below w.heap.size w w' := by
  obtain ⟨W0, hW0⟩ : ∃ W0, W0 = (w.alloc (.cells #[.int .i64 n, .slice A xs.length c] 25)).alloc (.cells #[.int .i64 n, .slice B ys.length d] 25) := ⟨_, rfl⟩
  have bw : Below w.heap.size w W0 := by rw [hW0]; exact (below_alloc _ _).alloc (by simp) _
  have hz : w.heap.size + 2 ≤ W0.heap.size := by rw [hW0]; simp
  have kga0 : W0.cell? ⟨w.heap.size, 0, none⟩ = some (.int .i64 n) := by rw [hW0]; simp [go_sem]
  have kga1 : W0.cell? ⟨w.heap.size, 1, none⟩ = some (.slice A xs.length c) := by rw [hW0]; simp [go_sem]
  have kgb0 : W0.cell? ⟨w.heap.size + 1, 0, none⟩ = some (.int .i64 n) := by rw [hW0]; simp [go_sem]
  have kgb1 : W0.cell? ⟨w.heap.size + 1, 1, none⟩ = some (.slice B ys.length d) := by rw [hW0]; simp [go_sem]
  have HX := Bx.mk (hA.below bw)
  have HY := Bx.mk (hB.below bw)
  have HXO := Bx.mk hx
  have HYO := Bx.mk hy
  obtain ⟨⟨hn1, hn2⟩, hxb, hxa⟩ := rhOk_iff.1 hx
  have HXB := Bx.mk hxb
  have HSS : Bx (∀ W, IR W A xs → IR W B ys → Calls Tryz.prog 47 #[.agg #[.int .i64 n, .slice A xs.length c], .agg #[.int .i64 n, .slice B ys.length d]] W fun e w' => e = .returned (.bool true) ∧ Below W.heap.size W w') := ⟨fun W h1 h2 => lit_b (twoOk_iff.2 ⟨HXO.out, HYO.out, rfl⟩) (implSame_any _ _ _ _ _ _ _ _ _ ⟨by omega, by omega⟩ ⟨by omega, by omega⟩ h1 h2)⟩
  obtain ⟨ga, hga⟩ : ∃ ga, ga = w.heap.size := ⟨_, rfl⟩
  obtain ⟨gb, hgb⟩ : ∃ gb, gb = w.heap.size + 1 := ⟨_, rfl⟩
  have lt_ga : ga < W0.heap.size := by omega
  have lt_gb : gb < W0.heap.size := by omega
  rw [← hga] at kga0 kga1
  rw [← hgb] at kgb0 kgb1
  have HRT : Bx (∀ W, IR W A xs → IR W B ys → Calls Tryz.prog 32 #[.agg #[.int .i64 n, .slice A xs.length c], .agg #[.int .i64 n, .slice B ys.length d]] W fun e w' => ∃ r : Int, 0 ≤ r ∧ e = .returned (.int .i64 r) ∧ Below W.heap.size W w') := ⟨fun W h1 h2 => rotationTo_ok n A B c d xs ys W HXO.out HYO.out hrot h1 h2⟩
  clear hx hy hA hB hxb hxa hrot
  go_enter Tryz.func15, Tryz.ntmps15
  go_wp2_with fail
  rw [← hW0, ← hgb, ← hga]
  clear hW0 hga hgb
  refine (HRT.out _ (by exact HX.out) (by exact HY.out)).mono ?_
  rintro e w2 ⟨r, hr, rfl, b⟩
  replace bw := bw.trans (b.mono bw.size)
  clear b
  go_wp2_with fail
  go_ret
  exact ⟨ret_bool (by simp), bw⟩
set_option maxHeartbeats 2000000 in
theorem fromSteps_ok (n : Nat) (A : Option Addr) (c : Nat) (L xs : List Int) (f : Int) (w : World) (hok : rhOk n xs = true) (h0 : 0 < xs.length) (hL : L = stepsTo n xs xs.length) (hf : f = xs[0]?.getD 0) (hx : IR w A L) :
    Calls Tryz.prog 10 #[.slice A L.length c, .int .i64 f] w (GivesRB w n xs true) := by
  have hl24 := (rhOk_len hok).1
  obtain ⟨⟨hs1, hs2⟩, hxb, _⟩ := rhOk_iff.1 hok
  have hLl : L.length = xs.length := by rw [hL, stepsTo_len]
  have hmem := st_mem hok
  rw [← hL] at hmem
  have hQ : ∀ k : Nat, k < L.length → 0 ≤ f + (L.take k).sum ∧ f + (L.take k).sum ≤ 24 := fun k hk => by
    rw [hL, st_take (by omega), st_cum (by omega), st_B0 h0, hf]
    unfold stB
    rw [if_pos (by omega), List.getElem?_eq_getElem (show k < xs.length by omega)]
    have := hxb _ (List.getElem_mem (show k < xs.length by omega))
    simp only [Option.getD_some]
    omega
  have hf0 : 0 ≤ f ∧ f ≤ 24 := by have := hQ 0 (by omega); simpa using this
  have HQ := Bx.mk hQ
  have HME := Bx.mk hmem
  have HFR : Bx (frTo L f L.length = xs) := ⟨by rw [hLl, hL, hf]; exact fr_back h0⟩
  have HLL := Bx.mk hLl
  have hm1 : 1 ≤ L.length := by omega
  have hm24 : L.length ≤ 24 := by omega
  have HAW : Bx (∀ W, IR W A L → Calls Tryz.prog 28 #[.slice A L.length c, .int .i64 1, .int .i64 24] W fun e w' => e = .returned (.bool true) ∧ Below W.heap.size W w') := ⟨fun W h => by
    have h1 := allWithin_any A c L 1 24 W h
    rw [allIn_iff.2 (fun x hx => by have := hmem x hx; omega)] at h1
    exact h1⟩
  have HSU : Bx (∀ W, IR W A L → Calls Tryz.prog 29 #[.slice A L.length c] W fun e w' => e = .returned (.int .i64 (n : Int)) ∧ W = w') := ⟨fun W h => by
    have h1 := sumOf_any A c L W (fun x hx => by have := hmem x hx; omega) (by omega) h
    rw [show L.sum = (n : Int) by rw [hL]; exact st_sum h0] at h1
    exact h1⟩
  obtain ⟨W0, hW0⟩ : ∃ W0, W0 = w.alloc (.cells #[.int .i64 0, .slice none 0 0] 25) := ⟨_, rfl⟩
  have bw : Below w.heap.size w W0 := by rw [hW0]; exact below_alloc _ _
  have hz : w.heap.size < W0.heap.size := by rw [hW0]; simp
  have R0 : Blk W0 w.heap.size 25 #[.int .i64 0, .slice none 0 0] := by rw [hW0]; exact Blk.new w _ _
  have HXW := Bx.mk hx
  have HX := Bx.mk (hx.below bw)
  have HOK := Bx.mk hok
  have hb1 : (((L.length : Nat) : Int) == 0) = false := by rw [beq_eq_false_iff_ne]; omega
  have hb2 : ¬ (L.length : Int) > 24 := by omega
  have hb3 : ¬ f < 0 := by omega
  have hb4 : ¬ L.length > 24 := by omega
  clear hx hL hf hmem hQ hLl hok hxb h0
  go_enter Tryz.func10, Tryz.ntmps10
  go_wp2_with fail
  rw [← hW0]
  clear hW0
  refine (HAW.out _ (by exact HX.out)).mono ?_
  rintro e w1 ⟨rfl, b⟩
  replace HX := Bx.mk (HX.out.below b)
  replace R0 := R0.below b hz
  replace hz := Nat.lt_of_lt_of_le hz b.size
  replace bw := bw.trans (b.mono bw.size)
  clear b
  go_wp2_with fail
  refine (HSU.out _ (by exact HX.out)).mono ?_
  rintro e w' ⟨rfl, rfl⟩
  obtain ⟨W2, hW2⟩ : ∃ W2, W2 = w1.alloc (.cells #[.int .i64 (n : Int), .slice none 0 0] 25) := ⟨_, rfl⟩
  obtain ⟨g8, hg8⟩ : ∃ g8, g8 = w1.heap.size := ⟨_, rfl⟩
  have b2 : Below w1.heap.size w1 W2 := by rw [hW2]; exact below_alloc _ _
  have HG0 : Bx (Blk W2 g8 25 #[.int .i64 (n : Int), .slice none 0 0]) := ⟨by rw [hW2, hg8]; exact Blk.new w1 _ _⟩
  have HX2 := Bx.mk (HX.out.below b2)
  have HR2 := Bx.mk (R0.below b2 hz)
  have HBW := Bx.mk (bw.trans (b2.mono bw.size))
  have hg8l : g8 < W2.heap.size := by rw [hW2, hg8]; simp
  have hwg : w.heap.size < g8 := by omega
  have HW1 : Bx (Below W2.heap.size W2 W2) := ⟨Below.refl _ _⟩
  have HXG : Bx (∀ x, A = some x → x.block < g8) := ⟨fun x hx => by
    obtain ⟨b', o', e, hlt, _⟩ := HX.out.2 (by omega)
    rw [e] at hx; injection hx with hx; subst hx; simp; omega⟩
  clear R0 b2 bw hz HX
  go_wp2_with fail
  rw [← hW2, ← hg8]
  clear hW2 hg8 hb1 hb2 hb3 hb4
  go_loopw [1, 32] (fun fv iv wr => ∃ (k : Nat) (v : Value), k ≤ L.length ∧ iv = .int .i64 k ∧ fv = .int .i64 (f + (L.take k).sum) ∧ Blk wr g8 25 #[.int .i64 (n : Int), v] ∧ Row wr W2.heap.size v (frTo L f k) ∧ Bx (Blk wr w.heap.size 25 #[.int .i64 0, .slice none 0 0]) ∧ Bx (Below w.heap.size w wr) ∧ W2.heap.size ≤ wr.heap.size) (fun _ iv _ => L.length - (intOf iv).toNat)
  case atStart => exact ⟨0, _, by omega, rfl, by simp, HG0.out, Row.nil _ _, HR2, HBW, Nat.le_refl _⟩
  case round =>
    clear HG0 HR2 HBW HX2 HW1
    obtain ⟨k, v, hk, rfl, rfl, hG, hrow, HR, HW, hzr⟩ := hrel
    have HX := Bx.mk (HXW.out.below HW.out)
    by_cases hlt : k < L.length
    · have hli : (k : Int) < (L.length : Int) := by omega
      obtain ⟨hq1, hq2⟩ := HQ.out k hlt
      obtain ⟨q, hq⟩ : ∃ q, q = f + (L.take k).sum := ⟨_, rfl⟩
      rw [← hq] at hq1 hq2
      have HN : Bx (frTo L f (k + 1) = frTo L f k ++ [q]) := ⟨by rw [frTo_succ, hq]⟩
      have hzl : (frTo L f k).length = k := frTo_len _ _ _
      obtain ⟨Z, hZ⟩ : ∃ Z, Z = frTo L f k := ⟨_, rfl⟩
      rw [← hZ] at hrow HN hzl
      have hzl2 : Z.length ≤ 24 := by omega
      obtain ⟨b1, o1, z, e1, hb1, kz, H3⟩ := HX.out.one (k := k) hlt
      have hzz := HME.out z (List.mem_of_getElem? H3.out)
      have HS : Bx (f + (L.take (k + 1)).sum = q + z) := ⟨by rw [List.take_add_one, H3.out, List.sum_append, hq]; simp; omega⟩
      obtain ⟨A', c', rfl⟩ := hrow.slice
      have cg1 := hG.at_ (i := 1) rfl
      have fg1 := hG.frozen 1
      have HG2 := Bx.mk hG
      have HO2 := Bx.mk hrow
      rw [← hq]
      subst e1
      clear hG hrow hq hZ hzl H3
      go_wp2_with (at_builtin; go_must (refine wpList_app1 rfl _ _ rfl W2.heap.size _ Z q rfl rfl (by exact HO2.out) (by omega) (by exact hzr) ?_); intro v1 w4 hown1 hb1; have hG4 := HG2.out.below hb1 (by omega); have cq1 := hG4.at_ (i := 1) rfl; have fq1 := hG4.frozen 1; obtain ⟨A5, c5, rfl⟩ := hown1.slice; obtain ⟨n5, hn5⟩ : ∃ n5, n5 = (Z ++ [q]).length := ⟨_, rfl⟩; rw [← hn5] at hown1; rw [← hn5]; clear hn5)
      have HG5 := Bx.mk (hG4.set 1 (.slice A5 n5 c5))
      have hoo : Only w4 (w4.setCell ⟨g8, 1, none⟩ (.slice A5 n5 c5)) (some ⟨g8, 0, none⟩) := (Only.refl w4 _).set _
      have HO5 : Bx (Row (w4.setCell ⟨g8, 1, none⟩ (.slice A5 n5 c5)) W2.heap.size (.slice A5 n5 c5) (frTo L f (k + 1))) := ⟨by rw [HN.out]; exact hown1.onlyAt hoo (by omega)⟩
      have HR5 := Bx.mk ((HR.out.below hb1 (by omega)).onlyAt hoo (by omega))
      have HW5 := Bx.mk ((HW.out.trans (hb1.mono (by omega))).setCell (p := ⟨g8, 1, none⟩) (show w.heap.size ≤ g8 by omega) (.slice A5 n5 c5))
      have hz5 : W2.heap.size ≤ (w4.setCell ⟨g8, 1, none⟩ (.slice A5 n5 c5)).heap.size := Nat.le_trans hzr (Nat.le_trans hb1.size hoo.size)
      clear hoo hown1 hb1 hG4 HX
      go_wp2_with fail
      go_roundw
      case rel => exact ⟨k + 1, _, by omega, by go_num, by rw [HS.out], HG5.out, HO5.out, HR5, HW5, hz5⟩
      case measure => simp [intOf]; omega
    · have hke : k = L.length := by omega
      have hli : ¬ (k : Int) < (L.length : Int) := by omega
      have hrow2 : Row wr W2.heap.size v xs := by rw [hke, HFR.out] at hrow; exact hrow
      obtain ⟨A', c', rfl, ios⟩ := hrow2.io (by omega)
      have HI := Bx.mk ios.reads
      have HIOS := Bx.mk ios
      have cg0 := hG.at_ (i := 0) rfl
      have cg1 := hG.at_ (i := 1) rfl
      have HSB : Bx (-9223372036854775808 ≤ (n : Int) ∧ (n : Int) ≤ 9223372036854775807) := ⟨by omega⟩
      clear hrow hrow2 ios hke HX
      go_wp2_with fail
      refine (lit_b HOK.out (implRhythmOk_any _ _ _ _ _ HSB.out (by exact HI.out))).mono ?_
      rintro e w5 ⟨rfl, b⟩
      have hG6 := hG.below b (by omega)
      have R6 := HR.out.below b (by omega)
      have cq0 := hG6.at_ (i := 0) rfl
      have cq1 := hG6.at_ (i := 1) rfl
      have cr0 := R6.at_ (i := 0) rfl
      have cr1 := R6.at_ (i := 1) rfl
      have fr0 := R6.frozen 0
      have fr1 := R6.frozen 1
      have bw6 := HW.out.trans (b.mono HW.out.size)
      have io6 := HIOS.out.below b (Nat.le_refl _)
      have RF := Bx.mk ((R6.set 0 (.int .i64 (n : Int))).set 1 (.slice A' xs.length c'))
      have BF := Bx.mk ((bw6.setCell (p := ⟨w.heap.size, 0, none⟩) (Nat.le_refl _) (.int .i64 (n : Int))).setCell (p := ⟨w.heap.size, 1, none⟩) (Nat.le_refl _) (.slice A' xs.length c'))
      have hwl : w.heap.size < W2.heap.size := by omega
      have HIO := Bx.mk (((io6.setLow (p := ⟨w.heap.size, 0, none⟩) hwl (.int .i64 (n : Int))).setLow (p := ⟨w.heap.size, 1, none⟩) hwl (.slice A' xs.length c')).mono (show w.heap.size ≤ W2.heap.size by omega))
      clear hG hG6 R6 b bw6 io6 cg0 cg1
      go_wp2_with fail
      refine bodyPost_ret (v := .tuple #[.agg #[.int .i64 (n : Int), .slice A' xs.length c'], .bool true]) (by simp [results, Tryz.results10, go_sem, RF.out.at_ (i := 0) rfl, RF.out.at_ (i := 1) rfl]) rfl ⟨A', c', rfl, HIO.out, BF.out⟩
set_option maxHeartbeats 2000000 in
theorem turnSteps_ok (n : Nat) (A : Option Addr) (c : Nat) (xs : List Int) (w : World) (hok : rhOk n xs = true) (h0 : 0 < xs.length) (hx : IR w A xs) :
    Calls Tryz.prog 11 #[.agg #[.int .i64 n, .slice A xs.length c]] w (GivesRB w n (turnR n xs) true) := by
  have hl24 := (rhOk_len hok).1
  obtain ⟨⟨hs1, hs2⟩, hxb, _⟩ := rhOk_iff.1 hok
  obtain ⟨L, hL⟩ : ∃ L, L = stepsTo n xs xs.length := ⟨_, rfl⟩
  obtain ⟨f, hf⟩ : ∃ f, f = xs[0]?.getD 0 := ⟨_, rfl⟩
  have hLl : L.length = xs.length := by rw [hL, stepsTo_len]
  have hmem := st_mem hok
  rw [← hL] at hmem
  have hfb : 0 ≤ f ∧ f < n := by rw [hf, List.getElem?_eq_getElem h0]; exact hxb _ (List.getElem_mem h0)
  have hQ : ∀ k : Nat, k < L.length → 0 ≤ f + (L.drop (L.length - k)).sum ∧ f + (L.drop (L.length - k)).sum ≤ 100 := fun k hk => by
    have h1 := tu_get (n := n) h0 (j := k) (by omega)
    rw [← hf, ← hL] at h1
    rw [hLl, h1]
    unfold stB
    split
    · rename_i h
      rw [List.getElem?_eq_getElem h]
      have := hxb _ (List.getElem_mem h)
      simp only [Option.getD_some]
      omega
    · rw [← hf]; omega
  have HTR : Bx (turnR n xs = coll (modL n (tuTo L f L.length))) := ⟨by unfold turnR; rw [← hf, ← hL, hLl]⟩
  have HTB : Bx (∀ x ∈ tuTo L f L.length, -1000000000000 ≤ x ∧ x ≤ 1000000000000) := ⟨fun x hx => by
    unfold tuTo at hx
    obtain ⟨k, hk, rfl⟩ := List.mem_map.1 hx
    have := hQ k (List.mem_range.1 hk)
    omega⟩
  have HQ := Bx.mk hQ
  have HME := Bx.mk hmem
  have HST : Bx (∀ W, IR W A xs → Calls Tryz.prog 5 #[.agg #[.int .i64 n, .slice A xs.length c]] W (GivesRow W L)) := ⟨fun W h => by rw [hL, ← stepsR_ok hok]; exact implSteps_any n A c xs W ⟨by omega, by omega⟩ h⟩
  have hm1 : 1 ≤ L.length := by omega
  have hm24 : L.length ≤ 24 := by omega
  have HSB : Bx (1 ≤ (n : Int) ∧ (n : Int) ≤ 24) := ⟨⟨hs1, hs2⟩⟩
  have HF := Bx.mk hf
  obtain ⟨W0, hW0⟩ : ∃ W0, W0 = (w.alloc (.cells #[.int .i64 n, .slice A xs.length c] 25)).alloc (.cells #[.int .i64 0, .slice none 0 0] 25) := ⟨_, rfl⟩
  have bw : Below w.heap.size w W0 := by rw [hW0]; exact (below_alloc _ _).alloc (by simp) _
  have hz : w.heap.size + 2 ≤ W0.heap.size := by rw [hW0]; simp
  have k0 : W0.cell? ⟨w.heap.size, 0, none⟩ = some (.int .i64 n) := by rw [hW0]; simp [go_sem]
  have k1 : W0.cell? ⟨w.heap.size, 1, none⟩ = some (.slice A xs.length c) := by rw [hW0]; simp [go_sem]
  have R0 : Blk W0 (w.heap.size + 1) 25 #[.int .i64 0, .slice none 0 0] := by rw [hW0]; have := Blk.new (w.alloc (.cells #[.int .i64 n, .slice A xs.length c] 25)) 25 #[.int .i64 0, .slice none 0 0]; simpa using this
  have HX := Bx.mk (hx.below bw)
  have hb1 : (((L.length : Nat) : Int) == 0) = false := by rw [beq_eq_false_iff_ne]; omega
  have hx0 : (0 : Int) < (xs.length : Int) := by omega
  have hxp : 0 < xs.length := h0
  clear hx hL hf hmem hQ hLl hok hxb h0 hfb
  go_enter Tryz.func11, Tryz.ntmps11
  go_wp2_with fail
  rw [← hW0]
  clear hW0
  refine (HST.out _ (by exact HX.out)).mono ?_
  rintro e w1 ⟨v, rfl, hr, b⟩
  obtain ⟨A2, c2, rfl, io⟩ := hr.io (by omega)
  have HL := Bx.mk io.reads
  replace k0 := ((bcell b).1 _ _ (by omega)).trans k0
  replace k1 := ((bcell b).1 _ _ (by omega)).trans k1
  replace HX := Bx.mk (HX.out.below b)
  replace R0 := R0.below b (by omega)
  replace hz := Nat.le_trans hz b.size
  replace bw := bw.trans (b.mono bw.size)
  clear b io hr
  obtain ⟨bA, oA, z0, rfl, hbA, kz, H3⟩ := HX.out.one (k := 0) hxp
  have hz0 : z0 = f := by rw [HF.out, H3.out]; rfl
  subst hz0
  have kz' : w1.cell? ⟨bA, oA, none⟩ = some (.int .i64 z0) := kz
  obtain ⟨m, hm⟩ : ∃ m : Nat, m = L.length := ⟨_, rfl⟩
  clear H3 kz
  go_wp2_with fail
  clear kz' hb1
  go_loopw [6, 5, 7] (fun sv fv iv wr => ∃ k : Nat, k ≤ L.length ∧ iv = .int .i64 ((L.length : Int) - 1 - (k : Int)) ∧ fv = .int .i64 (z0 + (L.drop (L.length - k)).sum) ∧ Bx (Row wr w1.heap.size sv (tuTo L z0 k)) ∧ Bx (Below w1.heap.size w1 wr)) (fun _ _ iv _ => (intOf iv + 1).toNat)
  case atStart => exact ⟨0, by omega, by simp, by simp, ⟨Row.nil _ _⟩, ⟨Below.refl _ _⟩⟩
  case round =>
    obtain ⟨k, hk, rfl, rfl, HR, HB⟩ := hrel
    by_cases hlt : k < L.length
    · obtain ⟨hq1, hq2⟩ := HQ.out k hlt
      obtain ⟨q, hq⟩ : ∃ q, q = z0 + (L.drop (L.length - k)).sum := ⟨_, rfl⟩
      rw [← hq] at hq1 hq2
      obtain ⟨i, hi⟩ : ∃ i : Nat, i = L.length - (k + 1) := ⟨_, rfl⟩
      have hii : (L.length : Int) - 1 - (k : Int) = (i : Int) := by omega
      have hil : (i : Int) < (L.length : Int) := by omega
      have hi0 : (i : Int) ≥ 0 := by omega
      obtain ⟨bL, oL, z, rfl, hbL, kl1, H3⟩ := HL.out.one (k := i) (by omega)
      have kl := ((bcell HB.out).1 _ _ hbL).trans kl1
      have hzz := HME.out z (List.mem_of_getElem? H3.out)
      have HS : Bx (z0 + (L.drop (L.length - (k + 1))).sum = q + z) := ⟨by rw [drop_next hlt, ← hi, H3.out, hq]; simp only [Option.getD_some]; omega⟩
      have HN : Bx (tuTo L z0 (k + 1) = tuTo L z0 k ++ [q]) := ⟨by rw [tuTo_succ, hq]⟩
      obtain ⟨Z, hZ⟩ : ∃ Z, Z = tuTo L z0 k := ⟨_, rfl⟩
      have hzl : Z.length ≤ 24 := by rw [hZ, tuTo_len]; omega
      rw [← hZ] at HR HN
      rw [← hq, hii]
      have hzb : w1.heap.size ≤ wr.heap.size := HB.out.size
      clear kl1
      have HIN : Bx ((L.length : Int) - 1 - ((k + 1 : Nat) : Int) = (i : Int) - 1) := ⟨by omega⟩
      clear H3 hq hZ hi
      go_wp2_with (at_builtin; go_must (refine wpList_app1 rfl _ _ rfl w1.heap.size _ Z q rfl rfl (by exact HR.out) (by omega) (by exact hzb) ?_); intro v1 w4 hown1 hb1; have kl4 := ((bcell hb1).1 _ _ (by omega)).trans kl)
      have HR4 : Bx (Row w4 w1.heap.size v1 (tuTo L z0 (k + 1))) := ⟨by rw [HN.out]; exact hown1⟩
      have HB4 := Bx.mk (HB.out.trans hb1)
      clear hown1 hb1
      go_wp2_with fail
      go_roundw
      case rel => exact ⟨k + 1, by omega, by rw [HIN.out], by rw [HS.out], HR4, HB4⟩
      case measure => simp [intOf]
    · have hke : k = L.length := by omega
      have hii : (L.length : Int) - 1 - (k : Int) = -1 := by omega
      have hrow := HR.out
      rw [hke] at hrow
      obtain ⟨Z, hZ⟩ : ∃ Z, Z = tuTo L z0 L.length := ⟨_, rfl⟩
      have hzl : Z.length ≤ 100000 := by rw [hZ, tuTo_len]; omega
      rw [← hZ] at hrow
      have HZB : Bx (∀ x ∈ Z, -1000000000000 ≤ x ∧ x ≤ 1000000000000) := ⟨by rw [hZ]; exact HTB.out⟩
      obtain ⟨T, hT⟩ : ∃ T, T = coll (modL n Z) := ⟨_, rfl⟩
      have HRM : Bx (∀ A' c' W, IR W A' Z → Calls Tryz.prog 30 #[.int .i64 n, .slice A' Z.length c'] W (GivesRh W n T)) := ⟨fun A' c' W h => by rw [hT]; exact rhythmOf_any n A' c' Z W HSB.out HZB.out hzl h⟩
      have HTE : Bx (turnR n xs = T) := ⟨by rw [HTR.out, hT, hZ]⟩
      obtain ⟨A6, c6, rfl, ios⟩ := hrow.io (by omega)
      have HI6 := Bx.mk ios.reads
      have q0 := ((bcell HB.out).1 _ _ (by omega)).trans k0
      have R6 := R0.below HB.out (by omega)
      have hzb := HB.out.size
      have bw6 := bw.trans (HB.out.mono bw.size)
      rw [hii]
      clear hke ios hrow hZ hT HR k0 k1
      go_wp2_with fail
      refine (HRM.out _ _ _ (by exact HI6.out)).mono ?_
      rintro e w2 ⟨A7, c7, rfl, io, b⟩
      have R7 := R6.below b (by omega)
      have cr0 := R7.at_ (i := 0) rfl
      have cr1 := R7.at_ (i := 1) rfl
      have fr0 := R7.frozen 0
      have fr1 := R7.frozen 1
      have bw7 := bw6.trans (b.mono bw6.size)
      have RF := Bx.mk ((R7.set 0 (.int .i64 (n : Int))).set 1 (.slice A7 T.length c7))
      have BF := Bx.mk ((bw7.setCell (p := ⟨w.heap.size + 1, 0, none⟩) (show w.heap.size ≤ w.heap.size + 1 by omega) (.int .i64 (n : Int))).setCell (p := ⟨w.heap.size + 1, 1, none⟩) (show w.heap.size ≤ w.heap.size + 1 by omega) (.slice A7 T.length c7))
      have hlow : w.heap.size + 1 < wr.heap.size := by omega
      have HIO := Bx.mk (((io.setLow (p := ⟨w.heap.size + 1, 0, none⟩) hlow (.int .i64 (n : Int))).setLow (p := ⟨w.heap.size + 1, 1, none⟩) hlow (.slice A7 T.length c7)).mono (show w.heap.size ≤ wr.heap.size by omega))
      clear R7 R6 b io bw7
      go_wp2_with fail
      refine bodyPost_ret (v := .tuple #[.agg #[.int .i64 (n : Int), .slice A7 T.length c7], .bool true]) (by simp [results, Tryz.results11, go_sem, RF.out.at_ (i := 0) rfl, RF.out.at_ (i := 1) rfl]) rfl ?_
      rw [HTE.out]
      exact ⟨A7, c7, rfl, HIO.out, BF.out⟩

/- The text of no steps. -/
theorem join0 (w : World) : Calls Tryz.prog 59 #[.slice none 0 0, .string ⟨#[44]⟩] w fun e w' => e = .returned (.string ⟨#[]⟩) ∧ w = w' := by
  go_enter Tryz.func59, Tryz.ntmps59
  go_wp2_with fail
  go_ret
  exact ⟨rfl, rfl⟩
theorem implJoin0 (w : World) : Calls Tryz.prog 41 #[.slice none 0 0, .string ⟨#[44]⟩] w fun e w' => e = .returned (.string ⟨#[]⟩) ∧ w = w' := by
  go_enter Tryz.func41, Tryz.ntmps41
  go_wp2_with fail
  refine (join0 _).mono ?_
  rintro e w' ⟨rfl, rfl⟩
  go_wp2_with fail
  go_ret
  exact ⟨rfl, rfl⟩
theorem numbers0 (A : Option Addr) (c : Nat) (w : World) : Calls Tryz.prog 26 #[.slice A 0 c] w fun e w' => e = .returned (.string ⟨#[]⟩) ∧ w = w' := by
  go_enter Tryz.func26, Tryz.ntmps26
  go_wp2_with fail
  go_loop [3, 8] (fun v i => v = .slice none 0 0 ∧ i = .int .i64 0) (fun _ _ => 0)
  case atStart => exact ⟨rfl, rfl⟩
  case round =>
    obtain ⟨rfl, rfl⟩ := hrel
    go_wp2_with fail
    refine (implJoin0 _).mono ?_
    rintro e w' ⟨rfl, rfl⟩
    go_wp2_with fail
    go_ret
    exact ⟨rfl, rfl⟩
theorem count0 (w : World) : Calls Tryz.prog 52 #[.string ⟨#[]⟩, .string ⟨#[44]⟩] w fun e w' => e = .returned (.int .i64 0) ∧ w = w' := by
  go_enter Tryz.func52, Tryz.ntmps52
  go_wp2_with fail
  rw [run_callFunc_extern Tryz.func66 (by kernel_rfl) (by kernel_rfl) (by kernel_rfl) (e := Extern.BytealgCount.count) (by kernel_rfl), Lib.run_countString]
  simp only [Result.andThen]
  rw [Oper.upon_value]
  go_wp2_with fail
  go_ret
  exact ⟨rfl, rfl⟩
theorem replace0 (w : World) : Calls Tryz.prog 39 #[.string ⟨#[]⟩, .string ⟨#[44]⟩, .string ⟨#[43]⟩, .int .i64 (-1)] w fun e w' => e = .returned (.string ⟨#[]⟩) ∧ w = w' := by
  go_enter Tryz.func39, Tryz.ntmps39
  go_wp2_with fail
  refine (count0 _).mono ?_
  rintro e w' ⟨rfl, rfl⟩
  go_wp2_with fail
  go_ret
  exact ⟨rfl, rfl⟩
theorem replaceAll0 (w : World) : Calls Tryz.prog 25 #[.string ⟨#[]⟩, .string ⟨#[44]⟩, .string ⟨#[43]⟩] w fun e w' => e = .returned (.string ⟨#[]⟩) ∧ w = w' := by
  go_enter Tryz.func25, Tryz.ntmps25
  go_wp2_with fail
  refine (replace0 _).mono ?_
  rintro e w' ⟨rfl, rfl⟩
  go_wp2_with fail
  go_ret
  exact ⟨rfl, rfl⟩
theorem format0 (s : Int) (A : Option Addr) (c : Nat) (w : World) (hs : rhOk s [] = true) :
    Calls Tryz.prog 8 #[.agg #[.int .i64 s, .slice A 0 c]] w fun e w' => e = .returned (.string ⟨#[]⟩) ∧ Below w.heap.size w w' := by
  obtain ⟨⟨hs1, hs2⟩, _, _⟩ := rhOk_iff.1 hs
  obtain ⟨W0, hW0⟩ : ∃ W0, W0 = w.alloc (.cells #[.int .i64 s, .slice A 0 c] 25) := ⟨_, rfl⟩
  have bw : Below w.heap.size w W0 := by rw [hW0]; exact below_alloc _ _
  have k0 : W0.cell? ⟨w.heap.size, 0, none⟩ = some (.int .i64 s) := by rw [hW0]; simp [go_sem]
  have k1 : W0.cell? ⟨w.heap.size, 1, none⟩ = some (.slice A 0 c) := by rw [hW0]; simp [go_sem]
  have HST : Bx (∀ W, Calls Tryz.prog 5 #[.agg #[.int .i64 s, .slice A 0 c]] W (GivesRow W [])) := ⟨fun W => by
    have h := implSteps_any s A c [] W ⟨by omega, by omega⟩ (IR.nil _ _)
    rw [stepsR_ok hs] at h
    exact h⟩
  clear hs hs1 hs2
  go_enter Tryz.func8, Tryz.ntmps8
  go_wp2_with fail
  rw [← hW0]
  clear hW0
  refine (HST.out _).mono ?_
  rintro e w1 ⟨v, rfl, hr, b⟩
  obtain ⟨A2, c2, rfl⟩ := hr.slice
  have HB := Bx.mk (bw.trans (b.mono bw.size))
  clear b hr
  go_wp2_with fail
  refine (numbers0 _ _ _).mono ?_
  rintro e w' ⟨rfl, rfl⟩
  go_wp2_with fail
  refine (replaceAll0 _).mono ?_
  rintro e w' ⟨rfl, rfl⟩
  go_wp2_with fail
  go_ret
  exact ⟨rfl, HB.out⟩
end Go.Proofs.YtbfaagdcifpcgaaGreatDoor
