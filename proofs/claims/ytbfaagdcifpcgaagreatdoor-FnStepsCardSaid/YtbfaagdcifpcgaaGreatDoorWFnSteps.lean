/- The law FnSteps, walked. -/
import Derived.Test.YtbfaagdcifpcgaaGreatDoorRegM
import Derived.Test.YtbfaagdcifpcgaaGreatDoorSts
import Derived.Test.YtbfaagdcifpcgaaGreatDoorStPl
import Derived.Test.YtbfaagdcifpcgaaGreatDoorMv
import Derived.Test.YtbfaagdcifpcgaaGreatDoorDrw
import Derived.Test.YtbfaagdcifpcgaaGreatDoorLawH
import Derived.Test.YtbfaagdcifpcgaaGreatDoorDiff
import Derived.Test.YtbfaagdcifpcgaaGreatDoorLawB
import Derived.Test.YtbfaagdcifpcgaaGreatDoorBas
import Derived.Test.YtbfaagdcifpcgaaGreatDoorFinWords
import Derived.Deep.RegionHeld3
import Derived.Deep.DeepCutAuto
namespace Go.Proofs.YtbfaagdcifpcgaaGreatDoor
open Go.RowKit
set_option maxRecDepth 20000

set_option linter.unusedSimpArgs false
set_option maxHeartbeats 16000000 in
set_option maxRecDepth 100000 in
theorem walkFnSteps (w : World) (A0 : Option Addr) (c0 : Nat) (xs0 : List Int) (ha0 : AR .u8 w A0 xs0) (hf0 : ∀ x ∈ xs0, 0 ≤ x ∧ x ≤ 255) :
    Calls Tryz.prog 3 #[.slice A0 xs0.length c0] w fun e w' => e = .returned (.bool true) ∧ Below w.heap.size w w' := by
  obtain ⟨n0, hn0⟩ : ∃ n0, n0 = xs0.length := ⟨_, rfl⟩
  by_cases hbig : n0 ≤ 1048576
  rotate_left
  · have hgt : (n0 : Int) > 1048576 := by omega
    rw [← hn0]
    clear hn0
    go_enter Tryz.func3, Tryz.ntmps3
    go_wp2_with fail
    go_ret
    exact ⟨rfl, Below.refl _ _⟩
  have HB : Bx (BR w A0 n0) := ⟨br_of hn0 hbig ha0 hf0⟩
  have bw : Below w.heap.size w w := Below.refl _ _
  have hgt : ¬ (n0 : Int) > 1048576 := by omega
  rw [← hn0]
  clear hn0 ha0 hf0
  go_enter Tryz.func3, Tryz.ntmps3
  go_wp2_with fail
  refine (makeRhythm_any _ _ _ 0 _ (by omega) (by exact HB.out)).mono ?_
  rintro e w1 ⟨n, hn1, hn16, a, haok, Aa, ca, rfl, io, b⟩
  clear HB
  replace bw := bw.trans (b.mono bw.size)
  clear b
  have HAOK := Bx.mk haok
  have hal := (rhOk_len haok).1
  have HA := Bx.mk io.reads
  clear io
  by_cases ha : a = []
  · subst ha
    obtain ⟨w2, hW⟩ : ∃ w2, w2 = w1.alloc (.cells #[.int .i64 n, .slice Aa 0 ca] 25) := ⟨_, rfl⟩
    obtain ⟨ga, hg⟩ : ∃ ga, ga = w1.heap.size := ⟨_, rfl⟩
    have b : Below w1.heap.size w1 w2 := by rw [hW]; exact below_alloc _ _
    have kga0 : w2.cell? ⟨ga, 0, none⟩ = some (.int .i64 n) := by rw [hW, hg]; simp [go_sem]
    have kga1 : w2.cell? ⟨ga, 1, none⟩ = some (.slice Aa 0 ca) := by rw [hW, hg]; simp [go_sem]
    have lt_ga : ga < w2.heap.size := by rw [hW, hg]; simp
    replace HA := Bx.mk (HA.out.below b)
    replace bw := bw.trans (b.mono bw.size)
    clear b
    have HSO : Bx (∀ A c W, Calls Tryz.prog 5 #[.agg #[.int .i64 n, .slice A 0 c]] W fun e w' => ∃ B d, e = .returned (.slice B 0 d) ∧ Below W.heap.size W w') := ⟨fun A c W => by
      have h := implSteps_any n A c [] W ⟨by omega, by omega⟩ (IR.nil _ _)
      rw [stepsR_ok HAOK.out] at h
      refine h.mono ?_
      rintro e w' ⟨v, rfl, hr, b⟩
      obtain ⟨B, d, rfl⟩ := hr.slice
      exact ⟨B, d, rfl, b⟩⟩
    have HLO : Bx (∀ A c W, Calls Tryz.prog 6 #[.agg #[.int .i64 n, .slice A 0 c]] W fun e w' => e = .returned (.int .i64 0) ∧ Below W.heap.size W w') := ⟨fun A c W => by
      have h := longest_ok n A c [] W HAOK.out (IR.nil _ _)
      rw [if_pos (by unfold sizesR; rw [stepsR_ok HAOK.out, show stepsTo (n : Int) [] ([] : List Int).length = [] from rfl, coll_nil]; rfl)] at h
      exact h⟩
    have HRE : Bx (∀ A c W, Calls Tryz.prog 7 #[.agg #[.int .i64 n, .slice A 0 c]] W fun e w' => e = .returned (.int .i64 0) ∧ Below W.heap.size W w') := ⟨fun A c W => rests_ok n A c [] W HAOK.out (IR.nil _ _)⟩
    have HFO : Bx (∀ A c W, Calls Tryz.prog 8 #[.agg #[.int .i64 n, .slice A 0 c]] W fun e w' => e = .returned (.string ⟨#[]⟩) ∧ Below W.heap.size W w') := ⟨fun A c W => format0 n A c W HAOK.out⟩
    have HRO : Bx (∀ A c W, Calls Tryz.prog 9 #[.agg #[.int .i64 n, .slice A 0 c]] W fun e w' => e = .returned (.bool true) ∧ Below W.heap.size W w') := ⟨fun A c W => lit_b HAOK.out (implRhythmOk_any n A c [] W ⟨by omega, by omega⟩ (IR.nil _ _))⟩
    clear haok
    go_upto_region 4 with (fail)
    rw [← hW, ← hg]
    clear hW hg
    go_wp2_with fail
    refine (HSO.out _ _ _).mono ?_
    rintro e w3 ⟨B1, d1, rfl, b⟩
    replace kga0 := ((bcell b).1 _ _ lt_ga).trans kga0
    replace kga1 := ((bcell b).1 _ _ lt_ga).trans kga1
    replace lt_ga := Nat.lt_of_lt_of_le lt_ga b.size
    replace HA := Bx.mk (HA.out.below b)
    replace bw := bw.trans (b.mono bw.size)
    clear b
    go_wp2_with fail
    refine (HLO.out _ _ _).mono ?_
    rintro e w4 ⟨rfl, b⟩
    replace kga0 := ((bcell b).1 _ _ lt_ga).trans kga0
    replace kga1 := ((bcell b).1 _ _ lt_ga).trans kga1
    replace lt_ga := Nat.lt_of_lt_of_le lt_ga b.size
    replace HA := Bx.mk (HA.out.below b)
    replace bw := bw.trans (b.mono bw.size)
    clear b
    go_wp2_with fail
    refine (HRE.out _ _ _).mono ?_
    rintro e w5 ⟨rfl, b⟩
    replace kga0 := ((bcell b).1 _ _ lt_ga).trans kga0
    replace kga1 := ((bcell b).1 _ _ lt_ga).trans kga1
    replace lt_ga := Nat.lt_of_lt_of_le lt_ga b.size
    replace HA := Bx.mk (HA.out.below b)
    replace bw := bw.trans (b.mono bw.size)
    clear b
    go_wp2_with fail
    refine (HFO.out _ _ _).mono ?_
    rintro e w6 ⟨rfl, b⟩
    replace kga0 := ((bcell b).1 _ _ lt_ga).trans kga0
    replace kga1 := ((bcell b).1 _ _ lt_ga).trans kga1
    replace lt_ga := Nat.lt_of_lt_of_le lt_ga b.size
    replace HA := Bx.mk (HA.out.below b)
    replace bw := bw.trans (b.mono bw.size)
    clear b
    go_wp2_with fail
    refine (HRO.out _ _ _).mono ?_
    rintro e w7 ⟨rfl, b⟩
    replace kga0 := ((bcell b).1 _ _ lt_ga).trans kga0
    replace kga1 := ((bcell b).1 _ _ lt_ga).trans kga1
    replace lt_ga := Nat.lt_of_lt_of_le lt_ga b.size
    replace HA := Bx.mk (HA.out.below b)
    replace bw := bw.trans (b.mono bw.size)
    clear b
    go_wp2_with fail
    go_ret
    exact ⟨rfl, bw⟩
  obtain ⟨w8, hW⟩ : ∃ w8, w8 = w1.alloc (.cells #[.int .i64 n, .slice Aa a.length ca] 25) := ⟨_, rfl⟩
  obtain ⟨ga, hg⟩ : ∃ ga, ga = w1.heap.size := ⟨_, rfl⟩
  have b : Below w1.heap.size w1 w8 := by rw [hW]; exact below_alloc _ _
  have kga0 : w8.cell? ⟨ga, 0, none⟩ = some (.int .i64 n) := by rw [hW, hg]; simp [go_sem]
  have kga1 : w8.cell? ⟨ga, 1, none⟩ = some (.slice Aa a.length ca) := by rw [hW, hg]; simp [go_sem]
  have lt_ga : ga < w8.heap.size := by rw [hW, hg]; simp
  replace HA := Bx.mk (HA.out.below b)
  replace bw := bw.trans (b.mono bw.size)
  clear b
  have hpos : 0 < a.length := List.length_pos_iff.2 ha
  obtain ⟨L, hL⟩ : ∃ L, L = stepsTo n a a.length := ⟨_, rfl⟩
  have hLl : L.length = a.length := by rw [hL, stepsTo_len]
  have hmem := st_mem haok
  rw [← hL] at hmem
  have hmem2 : ∀ x ∈ L, 1 ≤ x ∧ x ≤ 24 := fun x hx => by have := hmem x hx; omega
  have hsr := stepsR_ok haok
  have hends := coll_ends hmem2 (by omega)
  obtain ⟨f, hf⟩ : ∃ f, f = a[0]?.getD 0 := ⟨_, rfl⟩
  obtain ⟨X, hX⟩ : ∃ X, X = turnR n a := ⟨_, rfl⟩
  obtain ⟨Mi, hMi⟩ : ∃ Mi, Mi = mirL n a := ⟨_, rfl⟩
  obtain ⟨Z, hZ⟩ : ∃ Z, Z = coll L := ⟨_, rfl⟩
  have hsz : sizesR n a = Z := by unfold sizesR; rw [hsr, hZ, hL]
  have HXOK : Bx (rhOk n X = true) := ⟨by rw [hX]; exact turn_ok haok⟩
  have HMOK : Bx (rhOk n Mi = true) := ⟨by rw [hMi]; exact mir_ok hn1 (by omega) a⟩
  have HXL : Bx (X.length = a.length) := ⟨by rw [hX]; exact turn_len haok hpos⟩
  have HROT : Bx (rotB n X Mi = true) := ⟨by rw [hX, hMi]; exact turn_rot haok hpos⟩
  have HSO : Bx (∀ A c W, IR W A a → Calls Tryz.prog 5 #[.agg #[.int .i64 n, .slice A a.length c]] W (GivesInts W L)) := ⟨fun A c W h => by
    refine (implSteps_any n A c a W ⟨by omega, by omega⟩ h).mono ?_
    intro e w' hg
    rw [hsr, ← hL] at hg
    exact hg.ints (by omega)⟩
  have HFS : Bx (∀ A c W, IR W A L → Calls Tryz.prog 10 #[.slice A L.length c, .int .i64 f] W (GivesRB W n a true)) := ⟨fun A c W h => fromSteps_ok n A c L a f W HAOK.out hpos hL hf h⟩
  have HTU : Bx (∀ A c W, IR W A a → Calls Tryz.prog 11 #[.agg #[.int .i64 n, .slice A a.length c]] W (GivesRB W n X true)) := ⟨fun A c W h => by rw [hX]; exact turnSteps_ok n A c a W HAOK.out hpos h⟩
  have HMA : Bx (∀ A c W, IR W A a → Calls Tryz.prog 12 #[.agg #[.int .i64 n, .slice A a.length c]] W (GivesRB W n Mi true)) := ⟨fun A c W h => by rw [hMi]; exact mirror_ok n A c a W HAOK.out h⟩
  have HSM : Bx (∀ A c W, IR W A L → Calls Tryz.prog 13 #[.slice A L.length c] W fun e w' => e = .returned (.int .i64 (n : Int)) ∧ W = w') := ⟨fun A c W h => by
    have h1 := lawSum_any A c L W (fun x hx => by have := hmem2 x hx; omega) (by omega) h
    rw [show L.sum = (n : Int) by rw [hL]; exact st_sum hpos] at h1
    exact h1⟩
  have HRH : Bx (∀ A B c d W, IR W A a → IR W B a → Calls Tryz.prog 14 #[.agg #[.int .i64 n, .slice A a.length c], .agg #[.int .i64 n, .slice B a.length d]] W fun e w' => e = .returned (.bool true) ∧ Below W.heap.size W w') := ⟨fun A B c d W h1 h2 => by
    have := lawRhythms_any n n A B c d a a W h1 h2
    simpa using this⟩
  have HAR : Bx (∀ A B c d W, IR W A X → IR W B Mi → Calls Tryz.prog 15 #[.agg #[.int .i64 n, .slice A X.length c], .agg #[.int .i64 n, .slice B Mi.length d]] W fun e w' => e = .returned (.bool true) ∧ Below W.heap.size W w') := ⟨fun A B c d W h1 h2 => rotations_ok n A B c d X Mi W HXOK.out HMOK.out HROT.out h1 h2⟩
  have HCB : Bx (∀ A c W, IR W A X → Calls Tryz.prog 16 #[.agg #[.int .i64 n, .slice A X.length c]] W fun e w' => e = .returned (.int .i64 (a.length : Int)) ∧ Below W.heap.size W w') := ⟨fun A c W h => by
    have h1 := countBeats_ok n A c X W HXOK.out h
    rw [HXL.out] at h1 ⊢
    exact h1⟩
  have HSP : Bx (∀ (i k : Nat), i < L.length → k ≤ L.length → ∀ A c W, IR W A a → Calls Tryz.prog 17 #[.agg #[.int .i64 n, .slice A a.length c], .int .i64 i, .int .i64 k] W fun e w' => e = .returned (.int .i64 (spanAt L i k)) ∧ Below W.heap.size W w') := ⟨fun i k hi hk A c W h => by
    rw [hL]; exact span_ok n A c a i k W HAOK.out h (by omega) (by omega)⟩
  have HSA : Bx (∀ i : Nat, i < L.length → spanAt L i L.length = (n : Int)) := ⟨fun i hi => by rw [span_all hi, hL]; exact st_sum hpos⟩
  obtain ⟨Mx, hMx⟩ : ∃ Mx, Mx = mxTo L L.length := ⟨_, rfl⟩
  obtain ⟨Mn, hMn⟩ : ∃ Mn, Mn = mnTo L L.length := ⟨_, rfl⟩
  obtain ⟨Re, hRe⟩ : ∃ Re, Re = reTo L L.length := ⟨_, rfl⟩
  rw [← hZ, ← hMx, ← hMn] at hends
  have HZP : Bx (0 < Z.length) := ⟨hends.1⟩
  have HZ0 : Bx (Z[0]?.getD 0 = Mn) := ⟨hends.2.1⟩
  have HZL : Bx (Z[Z.length - 1]?.getD 0 = Mx) := ⟨hends.2.2⟩
  have HZB : Bx (Z.length ≤ 24) := ⟨by rw [hZ]; have := coll_len L; omega⟩
  have HLO : Bx (∀ A c W, IR W A a → Calls Tryz.prog 6 #[.agg #[.int .i64 n, .slice A a.length c]] W (fun e w' => e = .returned (.int .i64 Mx) ∧ Below W.heap.size W w')) := ⟨fun A c W h => by have h1 := longest_ok n A c a W HAOK.out h; rw [hsz, if_neg (by have := HZP.out; omega), HZL.out] at h1; exact h1⟩
  have HSH : Bx (∀ A c W, IR W A a → Calls Tryz.prog 19 #[.agg #[.int .i64 n, .slice A a.length c]] W (fun e w' => e = .returned (.int .i64 Mn) ∧ Below W.heap.size W w')) := ⟨fun A c W h => by have h1 := shortest_ok n A c a W HAOK.out h; rw [hsz, if_neg (by have := HZP.out; omega), HZ0.out] at h1; exact h1⟩
  have HRS : Bx (∀ A c W, IR W A a → Calls Tryz.prog 7 #[.agg #[.int .i64 n, .slice A a.length c]] W (fun e w' => e = .returned (.int .i64 (Re : Int)) ∧ Below W.heap.size W w')) := ⟨fun A c W h => by have h1 := rests_ok n A c a W HAOK.out h; rw [← hL, ← hLl, ← hRe] at h1; rw [hLl] at h1; exact h1⟩
  have HSZ : Bx (∀ A c W, IR W A a → Calls Tryz.prog 18 #[.agg #[.int .i64 n, .slice A a.length c]] W (GivesInts W Z)) := ⟨fun A c W h => by rw [← hsz]; exact implStepSizes_any n A c a W ⟨by omega, by omega⟩ h⟩
  have HS1 : Bx (∀ A c W, IR W A a → Calls Tryz.prog 21 #[.agg #[.int .i64 n, .slice A a.length c], .int .i64 1] W (GivesInts W Z)) := ⟨fun A c W h => by
    have h1 := implSpanSizes_any n A c a 1 W ⟨by omega, by omega⟩ h
    rw [show spanSz n a 1 = Z by unfold spanSz; rw [hsr, ← hL, if_pos (by omega), hZ]; exact congrArg coll (spans_one L)] at h1
    exact h1⟩
  obtain ⟨Y, hY⟩ : ∃ Y, Y = coll (spansTo L L.length L.length) := ⟨_, rfl⟩
  have HYL : Bx (Y.length = 1) := ⟨by rw [hY]; exact spans_all (by omega)⟩
  have HSN : Bx (∀ A c W, IR W A a → Calls Tryz.prog 21 #[.agg #[.int .i64 n, .slice A a.length c], .int .i64 L.length] W (GivesInts W Y)) := ⟨fun A c W h => by
    have h1 := implSpanSizes_any n A c a L.length W ⟨by omega, by omega⟩ h
    rw [show spanSz n a (L.length : Int) = Y by unfold spanSz; rw [hsr, ← hL, if_pos (by omega), hY, Int.toNat_natCast]] at h1
    exact h1⟩
  have HSE : Bx (∀ A B c d W, IR W A Z → IR W B Z → Calls Tryz.prog 20 #[.slice A Z.length c, .slice B Z.length d] W fun e w' => e = .returned (.bool true) ∧ W = w') := ⟨fun A B c d W h1 h2 => by
    have := lawSame_any A B c d Z Z W h1 h2
    simpa using this⟩
  have HM2 := Bx.mk hmem2
  have HMX := Bx.mk hMx
  have HMN := Bx.mk hMn
  have HRE := Bx.mk hRe
  have HFE := Bx.mk hf
  have HLL := Bx.mk hLl
  have hL1 : 1 ≤ L.length := by omega
  have hL24 : L.length ≤ 24 := by omega
  have hlb : (((L.length : Nat) : Int) != ((a.length : Nat) : Int)) = false := by rw [bne_eq_false_iff_eq, hLl]
  have hlz : (((L.length : Nat) : Int) == 0) = false := by rw [beq_eq_false_iff_ne]; omega
  clear haok hL hLl hmem hmem2 hsr hends hf hX hMi hZ hsz hMx hMn hRe hY ha
  go_upto_region 4 with (fail)
  rw [← hW, ← hg]
  clear hW hg
  go_wp2_with fail
  refine (HSO.out _ _ _ (by exact HA.out)).mono ?_
  rintro e w9 ⟨AL, cL, rfl, io, b⟩
  replace kga0 := ((bcell b).1 _ _ lt_ga).trans kga0
  replace kga1 := ((bcell b).1 _ _ lt_ga).trans kga1
  replace lt_ga := Nat.lt_of_lt_of_le lt_ga b.size
  replace HA := Bx.mk (HA.out.below b)
  replace bw := bw.trans (b.mono bw.size)
  clear b
  have HLr := Bx.mk io.reads
  clear io
  obtain ⟨bA, oA, z0, rfl, hbA, kz, H3⟩ := HA.out.one (k := 0) hpos
  have hz0 : z0 = f := by rw [HFE.out, H3.out]; rfl
  subst hz0
  have kz' : w9.cell? ⟨bA, oA, none⟩ = some (.int .i64 z0) := kz
  have hpi : (0 : Int) < (a.length : Int) := by omega
  clear H3 kz
  go_wp2_with fail
  refine (HFS.out _ _ _ (by exact HLr.out)).mono ?_
  rintro e w10 ⟨AX, cX, rfl, io, b⟩
  clear kz' hbA hlb hlz
  replace kga0 := ((bcell b).1 _ _ lt_ga).trans kga0
  replace kga1 := ((bcell b).1 _ _ lt_ga).trans kga1
  replace lt_ga := Nat.lt_of_lt_of_le lt_ga b.size
  replace HA := Bx.mk (HA.out.below b)
  replace HLr := Bx.mk (HLr.out.below b)
  replace bw := bw.trans (b.mono bw.size)
  clear b
  have HXr := Bx.mk io.reads
  clear io
  obtain ⟨w11, hW⟩ : ∃ w11, w11 = w10.alloc (.cells #[.int .i64 n, .slice AX a.length cX] 25) := ⟨_, rfl⟩
  obtain ⟨gx, hg⟩ : ∃ gx, gx = w10.heap.size := ⟨_, rfl⟩
  have b : Below w10.heap.size w10 w11 := by rw [hW]; exact below_alloc _ _
  have kgx0 : w11.cell? ⟨gx, 0, none⟩ = some (.int .i64 n) := by rw [hW, hg]; simp [go_sem]
  have kgx1 : w11.cell? ⟨gx, 1, none⟩ = some (.slice AX a.length cX) := by rw [hW, hg]; simp [go_sem]
  have lt_gx : gx < w11.heap.size := by rw [hW, hg]; simp
  replace kga0 := ((bcell b).1 _ _ lt_ga).trans kga0
  replace kga1 := ((bcell b).1 _ _ lt_ga).trans kga1
  replace lt_ga := Nat.lt_of_lt_of_le lt_ga b.size
  replace HA := Bx.mk (HA.out.below b)
  replace HLr := Bx.mk (HLr.out.below b)
  replace HXr := Bx.mk (HXr.out.below b)
  replace bw := bw.trans (b.mono bw.size)
  clear b
  go_upto_region 10 with (fail)
  rw [← hW, ← hg]
  clear hW hg
  go_wp2_with fail
  refine (HTU.out _ _ _ (by exact HA.out)).mono ?_
  rintro e w12 ⟨AT, cT, rfl, io, b⟩
  replace kga0 := ((bcell b).1 _ _ lt_ga).trans kga0
  replace kga1 := ((bcell b).1 _ _ lt_ga).trans kga1
  replace kgx0 := ((bcell b).1 _ _ lt_gx).trans kgx0
  replace kgx1 := ((bcell b).1 _ _ lt_gx).trans kgx1
  replace lt_ga := Nat.lt_of_lt_of_le lt_ga b.size
  replace lt_gx := Nat.lt_of_lt_of_le lt_gx b.size
  replace HA := Bx.mk (HA.out.below b)
  replace HLr := Bx.mk (HLr.out.below b)
  replace HXr := Bx.mk (HXr.out.below b)
  replace bw := bw.trans (b.mono bw.size)
  clear b
  have HTr := Bx.mk io.reads
  clear io
  obtain ⟨w13, hW⟩ : ∃ w13, w13 = w12.alloc (.cells #[.int .i64 n, .slice AT X.length cT] 25) := ⟨_, rfl⟩
  obtain ⟨gt, hg⟩ : ∃ gt, gt = w12.heap.size := ⟨_, rfl⟩
  have b : Below w12.heap.size w12 w13 := by rw [hW]; exact below_alloc _ _
  have kgt0 : w13.cell? ⟨gt, 0, none⟩ = some (.int .i64 n) := by rw [hW, hg]; simp [go_sem]
  have kgt1 : w13.cell? ⟨gt, 1, none⟩ = some (.slice AT X.length cT) := by rw [hW, hg]; simp [go_sem]
  have lt_gt : gt < w13.heap.size := by rw [hW, hg]; simp
  replace kga0 := ((bcell b).1 _ _ lt_ga).trans kga0
  replace kga1 := ((bcell b).1 _ _ lt_ga).trans kga1
  replace kgx0 := ((bcell b).1 _ _ lt_gx).trans kgx0
  replace kgx1 := ((bcell b).1 _ _ lt_gx).trans kgx1
  replace lt_ga := Nat.lt_of_lt_of_le lt_ga b.size
  replace lt_gx := Nat.lt_of_lt_of_le lt_gx b.size
  replace HA := Bx.mk (HA.out.below b)
  replace HLr := Bx.mk (HLr.out.below b)
  replace HXr := Bx.mk (HXr.out.below b)
  replace HTr := Bx.mk (HTr.out.below b)
  replace bw := bw.trans (b.mono bw.size)
  clear b
  go_upto_region 11 with (fail)
  rw [← hW, ← hg]
  clear hW hg
  go_wp2_with fail
  refine (HMA.out _ _ _ (by exact HA.out)).mono ?_
  rintro e w14 ⟨AM, cM, rfl, io, b⟩
  replace kga0 := ((bcell b).1 _ _ lt_ga).trans kga0
  replace kga1 := ((bcell b).1 _ _ lt_ga).trans kga1
  replace kgx0 := ((bcell b).1 _ _ lt_gx).trans kgx0
  replace kgx1 := ((bcell b).1 _ _ lt_gx).trans kgx1
  replace kgt0 := ((bcell b).1 _ _ lt_gt).trans kgt0
  replace kgt1 := ((bcell b).1 _ _ lt_gt).trans kgt1
  replace lt_ga := Nat.lt_of_lt_of_le lt_ga b.size
  replace lt_gx := Nat.lt_of_lt_of_le lt_gx b.size
  replace lt_gt := Nat.lt_of_lt_of_le lt_gt b.size
  replace HA := Bx.mk (HA.out.below b)
  replace HLr := Bx.mk (HLr.out.below b)
  replace HXr := Bx.mk (HXr.out.below b)
  replace HTr := Bx.mk (HTr.out.below b)
  replace bw := bw.trans (b.mono bw.size)
  clear b
  have HMr := Bx.mk io.reads
  clear io
  obtain ⟨w15, hW⟩ : ∃ w15, w15 = w14.alloc (.cells #[.int .i64 n, .slice AM Mi.length cM] 25) := ⟨_, rfl⟩
  obtain ⟨gm, hg⟩ : ∃ gm, gm = w14.heap.size := ⟨_, rfl⟩
  have b : Below w14.heap.size w14 w15 := by rw [hW]; exact below_alloc _ _
  have kgm0 : w15.cell? ⟨gm, 0, none⟩ = some (.int .i64 n) := by rw [hW, hg]; simp [go_sem]
  have kgm1 : w15.cell? ⟨gm, 1, none⟩ = some (.slice AM Mi.length cM) := by rw [hW, hg]; simp [go_sem]
  have lt_gm : gm < w15.heap.size := by rw [hW, hg]; simp
  replace kga0 := ((bcell b).1 _ _ lt_ga).trans kga0
  replace kga1 := ((bcell b).1 _ _ lt_ga).trans kga1
  replace kgx0 := ((bcell b).1 _ _ lt_gx).trans kgx0
  replace kgx1 := ((bcell b).1 _ _ lt_gx).trans kgx1
  replace kgt0 := ((bcell b).1 _ _ lt_gt).trans kgt0
  replace kgt1 := ((bcell b).1 _ _ lt_gt).trans kgt1
  replace lt_ga := Nat.lt_of_lt_of_le lt_ga b.size
  replace lt_gx := Nat.lt_of_lt_of_le lt_gx b.size
  replace lt_gt := Nat.lt_of_lt_of_le lt_gt b.size
  replace HA := Bx.mk (HA.out.below b)
  replace HLr := Bx.mk (HLr.out.below b)
  replace HXr := Bx.mk (HXr.out.below b)
  replace HTr := Bx.mk (HTr.out.below b)
  replace HMr := Bx.mk (HMr.out.below b)
  replace bw := bw.trans (b.mono bw.size)
  clear b
  have hnn : (((n : Nat) : Int) != ((n : Nat) : Int)) = false := by simp
  have hla : (((a.length : Nat) : Int) != ((L.length : Nat) : Int)) = false := by rw [bne_eq_false_iff_eq, HLL.out]
  go_upto_region 12 with (fail)
  rw [← hW, ← hg]
  clear hW hg
  have hB : Bx (Below w15.heap.size w15 w15.drew) := ⟨(Below.refl _ _).drew⟩
  have hB0 : Bx (Below w15.heap.size w15 w15) := ⟨Below.refl _ _⟩
  have kga0_d : w15.drew.cell? _ = _ := kga0
  have kga1_d : w15.drew.cell? _ = _ := kga1
  have kgx0_d : w15.drew.cell? _ = _ := kgx0
  have kgx1_d : w15.drew.cell? _ = _ := kgx1
  have kgt0_d : w15.drew.cell? _ = _ := kgt0
  have kgt1_d : w15.drew.cell? _ = _ := kgt1
  have kgm0_d : w15.drew.cell? _ = _ := kgm0
  have kgm1_d : w15.drew.cell? _ = _ := kgm1
  go_region_held3 (fun w' => w'.cell? ⟨ga, 0, none⟩ = some (.int .i64 n) ∧ w'.cell? ⟨ga, 1, none⟩ = some (.slice (some ⟨bA, oA, none⟩) a.length ca) ∧ w'.cell? ⟨gx, 0, none⟩ = some (.int .i64 n) ∧ w'.cell? ⟨gx, 1, none⟩ = some (.slice AX a.length cX) ∧ w'.cell? ⟨gt, 0, none⟩ = some (.int .i64 n) ∧ w'.cell? ⟨gt, 1, none⟩ = some (.slice AT X.length cT) ∧ w'.cell? ⟨gm, 0, none⟩ = some (.int .i64 n) ∧ w'.cell? ⟨gm, 1, none⟩ = some (.slice AM Mi.length cM) ∧ Bx (Below w15.heap.size w15 w'))
    ((refine (fun (hK : Bx (Below w15.heap.size w15 _)) => ⟨((bcell hK.out).1 _ _ lt_ga).trans kga0, ((bcell hK.out).1 _ _ lt_ga).trans kga1, ((bcell hK.out).1 _ _ lt_gx).trans kgx0, ((bcell hK.out).1 _ _ lt_gx).trans kgx1, ((bcell hK.out).1 _ _ lt_gt).trans kgt0, ((bcell hK.out).1 _ _ lt_gt).trans kgt1, ((bcell hK.out).1 _ _ lt_gm).trans kgm0, ((bcell hK.out).1 _ _ lt_gm).trans kgm1, hK⟩) ?_; (first | with_reducible assumption | with_reducible exact bx_alloc (by with_reducible assumption) _ | with_reducible exact bx_drew (by with_reducible assumption) | with_reducible exact bx_drew (bx_alloc (by with_reducible assumption) _))))
    (first
      | (go_at_call 13; refine (HSM.out _ _ _ (by exact HLr.out.below (Bx.out (by (first | with_reducible assumption | with_reducible exact bx_alloc (by with_reducible assumption) _ | with_reducible exact bx_drew (by with_reducible assumption) | with_reducible exact bx_drew (bx_alloc (by with_reducible assumption) _)))))).mono ?_; rintro e w' ⟨rfl, rfl⟩)
      | (go_at_call 14; refine (HRH.out _ _ _ _ _ (by exact HXr.out.below (Bx.out (by (first | with_reducible assumption | with_reducible exact bx_alloc (by with_reducible assumption) _ | with_reducible exact bx_drew (by with_reducible assumption) | with_reducible exact bx_drew (bx_alloc (by with_reducible assumption) _))))) (by exact HA.out.below (Bx.out (by (first | with_reducible assumption | with_reducible exact bx_alloc (by with_reducible assumption) _ | with_reducible exact bx_drew (by with_reducible assumption) | with_reducible exact bx_drew (bx_alloc (by with_reducible assumption) _)))))).mono ?_; rintro e w17 ⟨rfl, bw17⟩; have hBw17 : Bx (Below w15.heap.size w15 w17) := bx_to (by (first | with_reducible assumption | with_reducible exact bx_alloc (by with_reducible assumption) _ | with_reducible exact bx_drew (by with_reducible assumption) | with_reducible exact bx_drew (bx_alloc (by with_reducible assumption) _))) bw17; have hzw17 := bx_size hBw17; have kga0_w17 := ((bcell hBw17.out).1 _ _ lt_ga).trans kga0; have kga1_w17 := ((bcell hBw17.out).1 _ _ lt_ga).trans kga1; have kgx0_w17 := ((bcell hBw17.out).1 _ _ lt_gx).trans kgx0; have kgx1_w17 := ((bcell hBw17.out).1 _ _ lt_gx).trans kgx1; have kgt0_w17 := ((bcell hBw17.out).1 _ _ lt_gt).trans kgt0; have kgt1_w17 := ((bcell hBw17.out).1 _ _ lt_gt).trans kgt1; have kgm0_w17 := ((bcell hBw17.out).1 _ _ lt_gm).trans kgm0; have kgm1_w17 := ((bcell hBw17.out).1 _ _ lt_gm).trans kgm1)
      | (go_at_call 15; refine (HAR.out _ _ _ _ _ (by exact HTr.out.below (Bx.out (by (first | with_reducible assumption | with_reducible exact bx_alloc (by with_reducible assumption) _ | with_reducible exact bx_drew (by with_reducible assumption) | with_reducible exact bx_drew (bx_alloc (by with_reducible assumption) _))))) (by exact HMr.out.below (Bx.out (by (first | with_reducible assumption | with_reducible exact bx_alloc (by with_reducible assumption) _ | with_reducible exact bx_drew (by with_reducible assumption) | with_reducible exact bx_drew (bx_alloc (by with_reducible assumption) _)))))).mono ?_; rintro e w18 ⟨rfl, bw18⟩; have hBw18 : Bx (Below w15.heap.size w15 w18) := bx_to (by (first | with_reducible assumption | with_reducible exact bx_alloc (by with_reducible assumption) _ | with_reducible exact bx_drew (by with_reducible assumption) | with_reducible exact bx_drew (bx_alloc (by with_reducible assumption) _))) bw18; have hzw18 := bx_size hBw18; have kga0_w18 := ((bcell hBw18.out).1 _ _ lt_ga).trans kga0; have kga1_w18 := ((bcell hBw18.out).1 _ _ lt_ga).trans kga1; have kgx0_w18 := ((bcell hBw18.out).1 _ _ lt_gx).trans kgx0; have kgx1_w18 := ((bcell hBw18.out).1 _ _ lt_gx).trans kgx1; have kgt0_w18 := ((bcell hBw18.out).1 _ _ lt_gt).trans kgt0; have kgt1_w18 := ((bcell hBw18.out).1 _ _ lt_gt).trans kgt1; have kgm0_w18 := ((bcell hBw18.out).1 _ _ lt_gm).trans kgm0; have kgm1_w18 := ((bcell hBw18.out).1 _ _ lt_gm).trans kgm1)
      | (go_at_call 16; refine (HCB.out _ _ _ (by exact HTr.out.below (Bx.out (by (first | with_reducible assumption | with_reducible exact bx_alloc (by with_reducible assumption) _ | with_reducible exact bx_drew (by with_reducible assumption) | with_reducible exact bx_drew (bx_alloc (by with_reducible assumption) _)))))).mono ?_; rintro e w19 ⟨rfl, bw19⟩; have hBw19 : Bx (Below w15.heap.size w15 w19) := bx_to (by (first | with_reducible assumption | with_reducible exact bx_alloc (by with_reducible assumption) _ | with_reducible exact bx_drew (by with_reducible assumption) | with_reducible exact bx_drew (bx_alloc (by with_reducible assumption) _))) bw19; have hzw19 := bx_size hBw19; have kga0_w19 := ((bcell hBw19.out).1 _ _ lt_ga).trans kga0; have kga1_w19 := ((bcell hBw19.out).1 _ _ lt_ga).trans kga1; have kgx0_w19 := ((bcell hBw19.out).1 _ _ lt_gx).trans kgx0; have kgx1_w19 := ((bcell hBw19.out).1 _ _ lt_gx).trans kgx1; have kgt0_w19 := ((bcell hBw19.out).1 _ _ lt_gt).trans kgt0; have kgt1_w19 := ((bcell hBw19.out).1 _ _ lt_gt).trans kgt1; have kgm0_w19 := ((bcell hBw19.out).1 _ _ lt_gm).trans kgm0; have kgm1_w19 := ((bcell hBw19.out).1 _ _ lt_gm).trans kgm1))
  have b := hBw19.out
  replace kga0 := ((bcell b).1 _ _ lt_ga).trans kga0
  replace kga1 := ((bcell b).1 _ _ lt_ga).trans kga1
  replace kgx0 := ((bcell b).1 _ _ lt_gx).trans kgx0
  replace kgx1 := ((bcell b).1 _ _ lt_gx).trans kgx1
  replace kgt0 := ((bcell b).1 _ _ lt_gt).trans kgt0
  replace kgt1 := ((bcell b).1 _ _ lt_gt).trans kgt1
  replace kgm0 := ((bcell b).1 _ _ lt_gm).trans kgm0
  replace kgm1 := ((bcell b).1 _ _ lt_gm).trans kgm1
  replace lt_ga := Nat.lt_of_lt_of_le lt_ga b.size
  replace lt_gx := Nat.lt_of_lt_of_le lt_gx b.size
  replace lt_gt := Nat.lt_of_lt_of_le lt_gt b.size
  replace lt_gm := Nat.lt_of_lt_of_le lt_gm b.size
  replace HA := Bx.mk (HA.out.below b)
  replace HLr := Bx.mk (HLr.out.below b)
  replace HXr := Bx.mk (HXr.out.below b)
  replace HTr := Bx.mk (HTr.out.below b)
  replace HMr := Bx.mk (HMr.out.below b)
  replace bw := bw.trans (b.mono bw.size)
  clear b
  clear hnn hla
  go_wp2_with fail
  go_loopw [11, 12, 13, 103] (fun mv nv rv iv wr => ∃ k : Nat, k ≤ L.length ∧ iv = .int .i64 k ∧ mv = .int .i64 (mxTo L k) ∧ nv = .int .i64 (mnTo L k) ∧ rv = .int .i64 ((reTo L k : Nat) : Int) ∧ Bx (Below w19.heap.size w19 wr)) (fun _ _ _ iv _ => L.length - (intOf iv).toNat)
  case atStart => exact ⟨0, by omega, rfl, rfl, rfl, rfl, ⟨Below.refl _ _⟩⟩
  case round =>
    obtain ⟨k, hk, rfl, rfl, rfl, rfl, HR⟩ := hrel
    obtain ⟨hx1, hx2⟩ := (mx_spec HM2.out hk).1
    obtain ⟨hx3, hx4⟩ := (mn_spec HM2.out hk).1
    have hx5 := re_bd L k
    obtain ⟨q1, hq1⟩ : ∃ q1, q1 = mxTo L k := ⟨_, rfl⟩
    obtain ⟨q2, hq2⟩ : ∃ q2, q2 = mnTo L k := ⟨_, rfl⟩
    obtain ⟨q3, hq3⟩ : ∃ q3, q3 = reTo L k := ⟨_, rfl⟩
    rw [← hq1] at hx1 hx2
    rw [← hq2] at hx3 hx4
    rw [← hq3] at hx5
    rw [← hq1, ← hq2, ← hq3]
    by_cases hlt : k < L.length
    · have hli : (k : Int) < (L.length : Int) := by omega
      obtain ⟨bL, oL, z, rfl, lt_bL, kz1, H3⟩ := HLr.out.one (k := k) hlt
      have kz := ((bcell HR.out).1 _ _ lt_bL).trans kz1
      have hzz := HM2.out z (List.mem_of_getElem? H3.out)
      obtain ⟨hz1, hz2⟩ := hzz
      have HMX1 : Bx (mxTo L (k + 1) = max q1 z) := ⟨by simp only [mxTo]; rw [H3.out, hq1]; rfl⟩
      have HMN1 : Bx (mnTo L (k + 1) = min q2 z) := ⟨by simp only [mnTo]; rw [H3.out, hq2]; rfl⟩
      have HP1 : Bx (∀ A c W, IR W A a → Calls Tryz.prog 17 #[.agg #[.int .i64 n, .slice A a.length c], .int .i64 k, .int .i64 1] W fun e w' => e = .returned (.int .i64 z) ∧ Below W.heap.size W w') := ⟨fun A c W h => by
        have h1 := HSP.out k 1 hlt hL1 A c W h
        rw [span_one hlt, H3.out] at h1
        exact h1⟩
      have HP2 : Bx (∀ A c W, IR W A a → Calls Tryz.prog 17 #[.agg #[.int .i64 n, .slice A a.length c], .int .i64 k, .int .i64 L.length] W fun e w' => e = .returned (.int .i64 (n : Int)) ∧ Below W.heap.size W w') := ⟨fun A c W h => by
        have h1 := HSP.out k L.length hlt (Nat.le_refl _) A c W h
        rw [HSA.out k hlt] at h1
        exact h1⟩
      have HP3 : Bx (∀ A c W, IR W A a → Calls Tryz.prog 17 #[.agg #[.int .i64 n, .slice A a.length c], .int .i64 k, .int .i64 0] W fun e w' => e = .returned (.int .i64 0) ∧ Below W.heap.size W w') := ⟨fun A c W h => HSP.out k 0 hlt (Nat.zero_le _) A c W h⟩
      have hzb : (z != z) = false := by simp
      have hnn : (((n : Nat) : Int) != ((n : Nat) : Int)) = false := by simp
      have qa0 := ((bcell HR.out).1 _ _ lt_ga).trans kga0
      have qa1 := ((bcell HR.out).1 _ _ lt_ga).trans kga1
      have lt_ga2 := Nat.lt_of_lt_of_le lt_ga HR.out.size
      have HA2 := Bx.mk (HA.out.below HR.out)
      have bw := HR.out
      by_cases hzg : 1 < z
      · skip
        have HRE1 : Bx (reTo L (k + 1) = q3 + 1) := ⟨by simp only [reTo]; rw [H3.out, hq3]; simp [hzg]⟩
        clear H3 hq1 hq2 hq3 kz1
        go_upto_region 24 with (fail)
        have lt_ga := lt_ga2
        have hB : Bx (Below wr.heap.size wr wr.drew) := ⟨(Below.refl _ _).drew⟩
        have hB0 : Bx (Below wr.heap.size wr wr) := ⟨Below.refl _ _⟩
        have qa0_d : wr.drew.cell? _ = _ := qa0
        have qa1_d : wr.drew.cell? _ = _ := qa1
        refine wp_region_held_drew (S := fun w' => w'.cell? ⟨ga, 0, none⟩ = some (.int .i64 n) ∧ w'.cell? ⟨ga, 1, none⟩ = some (.slice (some ⟨bA, oA, none⟩) a.length ca) ∧ Bx (Below wr.heap.size wr w')) (by kernel_rfl) ?hS1000 (fun hHeld => ?rest1000)
        case hS1000 => (try dsimp only); (refine (fun (hK : Bx (Below wr.heap.size wr _)) => ⟨((bcell hK.out).1 _ _ lt_ga).trans qa0, ((bcell hK.out).1 _ _ lt_ga).trans qa1, hK⟩) ?_; (first | with_reducible assumption | with_reducible exact bx_alloc (by with_reducible assumption) _ | with_reducible exact bx_drew (by with_reducible assumption) | with_reducible exact bx_drew (bx_alloc (by with_reducible assumption) _)))
        case rest1000 =>
        refine wpAnyH_take (i := 0) (v := ?v1001) (at_list rfl) (by kernel_rfl) (by kernel_rfl) (by kernel_rfl) (fun _ _ _ h => h) (Or.inl ⟨by rfl, ?hy1001⟩) (by assumption) ?rest1001
        case hy1001 => intro w hSw; (try dsimp only at hSw); go_simp; try (with_reducible rfl)
        case rest1001 =>
        try simp only [Act.put, List.setIfInBounds_toArray, List.set_cons_zero, List.set_cons_succ]
        refine wpAnyH_take (i := 1) (v := ?v1002) (at_list rfl) (by kernel_rfl) (by kernel_rfl) (by kernel_rfl) (fun _ _ _ h => h) (Or.inl ⟨by rfl, ?hy1002⟩) (by assumption) ?rest1002
        case hy1002 => intro w hSw; (try dsimp only at hSw); go_simp; try (with_reducible rfl)
        case rest1002 =>
        try simp only [Act.put, List.setIfInBounds_toArray, List.set_cons_zero, List.set_cons_succ]
        refine wpAnyH_take (i := 3) (v := ?v1003) (at_list rfl) (by kernel_rfl) (by kernel_rfl) (by kernel_rfl) (fun _ _ _ h => h) (Or.inl ⟨by rfl, ?hy1003⟩) (by assumption) ?rest1003
        case hy1003 => intro w hSw; (try dsimp only at hSw); go_simp; try (with_reducible rfl)
        case rest1003 =>
        try simp only [Act.put, List.setIfInBounds_toArray, List.set_cons_zero, List.set_cons_succ]
        refine wpAnyH_ready (rs := [2]) (by kernel_rfl) (by simp) ?_
        refine AllReadyH.cons (at_list rfl) (fun K hK => ?_) AllReadyH.nil
        go_simp
        go_at_call 17; refine (HP1.out _ _ _ (by exact HA2.out.below (Bx.out (by (first | with_reducible assumption | with_reducible exact bx_alloc (by with_reducible assumption) _ | with_reducible exact bx_drew (by with_reducible assumption) | with_reducible exact bx_drew (bx_alloc (by with_reducible assumption) _)))))).mono ?_; rintro e w20 ⟨rfl, bw20⟩; have hBw20 : Bx (Below wr.heap.size wr w20) := bx_to (by (first | with_reducible assumption | with_reducible exact bx_alloc (by with_reducible assumption) _ | with_reducible exact bx_drew (by with_reducible assumption) | with_reducible exact bx_drew (bx_alloc (by with_reducible assumption) _))) bw20; have hzw20 := bx_size hBw20; have qa0_w20 := ((bcell hBw20.out).1 _ _ lt_ga).trans qa0; have qa1_w20 := ((bcell hBw20.out).1 _ _ lt_ga).trans qa1
        refine hK.out _ _ ?hS1004 (fun hHeld => ?rest1004)
        case hS1004 => (try dsimp only); (refine (fun (hK : Bx (Below wr.heap.size wr _)) => ⟨((bcell hK.out).1 _ _ lt_ga).trans qa0, ((bcell hK.out).1 _ _ lt_ga).trans qa1, hK⟩) ?_; (first | with_reducible assumption | with_reducible exact bx_alloc (by with_reducible assumption) _ | with_reducible exact bx_drew (by with_reducible assumption) | with_reducible exact bx_drew (bx_alloc (by with_reducible assumption) _)))
        case rest1004 =>
        clear hK K
        try simp only [Act.put, List.setIfInBounds_toArray, List.set_cons_zero, List.set_cons_succ]
        refine wpAnyH_take (i := 4) (v := ?v1005) (at_list rfl) (by kernel_rfl) (by kernel_rfl) (by kernel_rfl) (fun _ _ _ h => h) (Or.inl ⟨by rfl, ?hy1005⟩) (by assumption) ?rest1005
        case hy1005 => intro w hSw; (try dsimp only at hSw); go_simp; try (with_reducible rfl)
        case rest1005 =>
        try simp only [Act.put, List.setIfInBounds_toArray, List.set_cons_zero, List.set_cons_succ]
        refine wpAnyH_take (i := 5) (v := ?v1006) (at_list rfl) (by kernel_rfl) (by kernel_rfl) (by kernel_rfl) (fun _ _ _ h => h) (Or.inl ⟨by rfl, ?hy1006⟩) (by assumption) ?rest1006
        case hy1006 => intro w hSw; (try dsimp only at hSw); go_simp; try (with_reducible rfl)
        case rest1006 =>
        try simp only [Act.put, List.setIfInBounds_toArray, List.set_cons_zero, List.set_cons_succ]
        refine wpAnyH_take (i := 6) (v := ?v1007) (at_list rfl) (by kernel_rfl) (by kernel_rfl) (by kernel_rfl) (fun _ _ _ h => h) (Or.inl ⟨by rfl, ?hy1007⟩) (by assumption) ?rest1007
        case hy1007 => intro w hSw; (try dsimp only at hSw); go_simp; try (with_reducible rfl)
        case rest1007 =>
        try simp only [Act.put, List.setIfInBounds_toArray, List.set_cons_zero, List.set_cons_succ]
        refine wpAnyH_take (i := 7) (v := ?v1008) (at_list rfl) (by kernel_rfl) (by kernel_rfl) (by kernel_rfl) (fun _ _ _ h => h) (Or.inl ⟨by rfl, ?hy1008⟩) (by assumption) ?rest1008
        case hy1008 => intro w hSw; (try dsimp only at hSw); go_simp; try (with_reducible rfl)
        case rest1008 =>
        try simp only [Act.put, List.setIfInBounds_toArray, List.set_cons_zero, List.set_cons_succ]
        refine wpAnyH_take (i := 8) (v := ?v1009) (at_list rfl) (by kernel_rfl) (by kernel_rfl) (by kernel_rfl) (fun _ _ _ h => h) (Or.inl ⟨by rfl, ?hy1009⟩) (by assumption) ?rest1009
        case hy1009 => intro w hSw; (try dsimp only at hSw); go_simp; try (with_reducible rfl)
        case rest1009 =>
        try simp only [Act.put, List.setIfInBounds_toArray, List.set_cons_zero, List.set_cons_succ]
        refine wpAnyH_take (i := 9) (v := ?v1010) (at_list rfl) (by kernel_rfl) (by kernel_rfl) (by kernel_rfl) (fun _ _ _ h => h) (Or.inl ⟨by rfl, ?hy1010⟩) (by assumption) ?rest1010
        case hy1010 => intro w hSw; (try dsimp only at hSw); go_simp; try (with_reducible rfl)
        case rest1010 =>
        try simp only [Act.put, List.setIfInBounds_toArray, List.set_cons_zero, List.set_cons_succ]
        refine wpAnyH_take (i := 11) (v := ?v1011) (at_list rfl) (by kernel_rfl) (by kernel_rfl) (by kernel_rfl) (fun _ _ _ h => h) (Or.inl ⟨by rfl, ?hy1011⟩) (by assumption) ?rest1011
        case hy1011 => intro w hSw; (try dsimp only at hSw); go_simp; try (with_reducible rfl)
        case rest1011 =>
        try simp only [Act.put, List.setIfInBounds_toArray, List.set_cons_zero, List.set_cons_succ]
        refine wpAnyH_take (i := 12) (v := ?v1012) (at_list rfl) (by kernel_rfl) (by kernel_rfl) (by kernel_rfl) (fun _ _ _ h => h) (Or.inl ⟨by rfl, ?hy1012⟩) (by assumption) ?rest1012
        case hy1012 => intro w hSw; (try dsimp only at hSw); go_simp; try (with_reducible rfl)
        case rest1012 =>
        try simp only [Act.put, List.setIfInBounds_toArray, List.set_cons_zero, List.set_cons_succ]
        refine wpAnyH_ready (rs := [10]) (by kernel_rfl) (by simp) ?_
        refine AllReadyH.cons (at_list rfl) (fun K hK => ?_) AllReadyH.nil
        go_simp
        go_at_call 17; refine (HP2.out _ _ _ (by exact HA2.out.below (Bx.out (by (first | with_reducible assumption | with_reducible exact bx_alloc (by with_reducible assumption) _ | with_reducible exact bx_drew (by with_reducible assumption) | with_reducible exact bx_drew (bx_alloc (by with_reducible assumption) _)))))).mono ?_; rintro e w21 ⟨rfl, bw21⟩; have hBw21 : Bx (Below wr.heap.size wr w21) := bx_to (by (first | with_reducible assumption | with_reducible exact bx_alloc (by with_reducible assumption) _ | with_reducible exact bx_drew (by with_reducible assumption) | with_reducible exact bx_drew (bx_alloc (by with_reducible assumption) _))) bw21; have hzw21 := bx_size hBw21; have qa0_w21 := ((bcell hBw21.out).1 _ _ lt_ga).trans qa0; have qa1_w21 := ((bcell hBw21.out).1 _ _ lt_ga).trans qa1
        refine hK.out _ _ ?hS1013 (fun hHeld => ?rest1013)
        case hS1013 => (try dsimp only); (refine (fun (hK : Bx (Below wr.heap.size wr _)) => ⟨((bcell hK.out).1 _ _ lt_ga).trans qa0, ((bcell hK.out).1 _ _ lt_ga).trans qa1, hK⟩) ?_; (first | with_reducible assumption | with_reducible exact bx_alloc (by with_reducible assumption) _ | with_reducible exact bx_drew (by with_reducible assumption) | with_reducible exact bx_drew (bx_alloc (by with_reducible assumption) _)))
        case rest1013 =>
        clear hK K
        try simp only [Act.put, List.setIfInBounds_toArray, List.set_cons_zero, List.set_cons_succ]
        refine wpAnyH_take (i := 13) (v := ?v1014) (at_list rfl) (by kernel_rfl) (by kernel_rfl) (by kernel_rfl) (fun _ _ _ h => h) (Or.inl ⟨by rfl, ?hy1014⟩) (by assumption) ?rest1014
        case hy1014 => intro w hSw; (try dsimp only at hSw); go_simp; try (with_reducible rfl)
        case rest1014 =>
        try simp only [Act.put, List.setIfInBounds_toArray, List.set_cons_zero, List.set_cons_succ]
        refine wpAnyH_take (i := 14) (v := ?v1015) (at_list rfl) (by kernel_rfl) (by kernel_rfl) (by kernel_rfl) (fun _ _ _ h => h) (Or.inl ⟨by rfl, ?hy1015⟩) (by assumption) ?rest1015
        case hy1015 => intro w hSw; (try dsimp only at hSw); go_simp; try (with_reducible rfl)
        case rest1015 =>
        try simp only [Act.put, List.setIfInBounds_toArray, List.set_cons_zero, List.set_cons_succ]
        refine wpAnyH_take (i := 15) (v := ?v1016) (at_list rfl) (by kernel_rfl) (by kernel_rfl) (by kernel_rfl) (fun _ _ _ h => h) (Or.inl ⟨by rfl, ?hy1016⟩) (by assumption) ?rest1016
        case hy1016 => intro w hSw; (try dsimp only at hSw); go_simp; try (with_reducible rfl)
        case rest1016 =>
        try simp only [Act.put, List.setIfInBounds_toArray, List.set_cons_zero, List.set_cons_succ]
        refine wpAnyH_take (i := 16) (v := ?v1017) (at_list rfl) (by kernel_rfl) (by kernel_rfl) (by kernel_rfl) (fun _ _ _ h => h) (Or.inl ⟨by rfl, ?hy1017⟩) (by assumption) ?rest1017
        case hy1017 => intro w hSw; (try dsimp only at hSw); go_simp; try (with_reducible rfl)
        case rest1017 =>
        try simp only [Act.put, List.setIfInBounds_toArray, List.set_cons_zero, List.set_cons_succ]
        refine wpAnyH_take (i := 17) (v := ?v1018) (at_list rfl) (by kernel_rfl) (by kernel_rfl) (by kernel_rfl) (fun _ _ _ h => h) (Or.inl ⟨by rfl, ?hy1018⟩) (by assumption) ?rest1018
        case hy1018 => intro w hSw; (try dsimp only at hSw); go_simp; try (with_reducible rfl)
        case rest1018 =>
        try simp only [Act.put, List.setIfInBounds_toArray, List.set_cons_zero, List.set_cons_succ]
        refine wpAnyH_ready (rs := [18]) (by kernel_rfl) (by simp) ?_
        refine AllReadyH.cons (at_list rfl) (fun K hK => ?_) AllReadyH.nil
        go_simp
        go_at_call 17; refine (HP3.out _ _ _ (by exact HA2.out.below (Bx.out (by (first | with_reducible assumption | with_reducible exact bx_alloc (by with_reducible assumption) _ | with_reducible exact bx_drew (by with_reducible assumption) | with_reducible exact bx_drew (bx_alloc (by with_reducible assumption) _)))))).mono ?_; rintro e w22 ⟨rfl, bw22⟩; have hBw22 : Bx (Below wr.heap.size wr w22) := bx_to (by (first | with_reducible assumption | with_reducible exact bx_alloc (by with_reducible assumption) _ | with_reducible exact bx_drew (by with_reducible assumption) | with_reducible exact bx_drew (bx_alloc (by with_reducible assumption) _))) bw22; have hzw22 := bx_size hBw22; have qa0_w22 := ((bcell hBw22.out).1 _ _ lt_ga).trans qa0; have qa1_w22 := ((bcell hBw22.out).1 _ _ lt_ga).trans qa1
        refine hK.out _ _ ?hS1019 (fun hHeld => ?rest1019)
        case hS1019 => (try dsimp only); (refine (fun (hK : Bx (Below wr.heap.size wr _)) => ⟨((bcell hK.out).1 _ _ lt_ga).trans qa0, ((bcell hK.out).1 _ _ lt_ga).trans qa1, hK⟩) ?_; (first | with_reducible assumption | with_reducible exact bx_alloc (by with_reducible assumption) _ | with_reducible exact bx_drew (by with_reducible assumption) | with_reducible exact bx_drew (bx_alloc (by with_reducible assumption) _)))
        case rest1019 =>
        clear hK K
        try simp only [Act.put, List.setIfInBounds_toArray, List.set_cons_zero, List.set_cons_succ]
        refine wpAnyH_take (i := 19) (v := ?v1020) (at_list rfl) (by kernel_rfl) (by kernel_rfl) (by kernel_rfl) (fun _ _ _ h => h) (Or.inl ⟨by rfl, ?hy1020⟩) (by assumption) ?rest1020
        case hy1020 => intro w hSw; (try dsimp only at hSw); go_simp; try (with_reducible rfl)
        case rest1020 =>
        try simp only [Act.put, List.setIfInBounds_toArray, List.set_cons_zero, List.set_cons_succ]
        refine wpAnyH_take (i := 20) (v := ?v1021) (at_list rfl) (by kernel_rfl) (by kernel_rfl) (by kernel_rfl) (fun _ _ _ h => h) (Or.inl ⟨by rfl, ?hy1021⟩) (by assumption) ?rest1021
        case hy1021 => intro w hSw; (try dsimp only at hSw); go_simp; try (with_reducible rfl)
        case rest1021 =>
        try simp only [Act.put, List.setIfInBounds_toArray, List.set_cons_zero, List.set_cons_succ]
        refine wpAnyH_done (by kernel_rfl) ?_ _
        have b := hBw22.out
        replace qa0 := ((bcell b).1 _ _ lt_ga).trans qa0
        replace qa1 := ((bcell b).1 _ _ lt_ga).trans qa1
        replace lt_ga := Nat.lt_of_lt_of_le lt_ga b.size
        replace HA2 := Bx.mk (HA2.out.below b)
        replace bw := bw.trans (b.mono bw.size)
        clear b
        have HRF := Bx.mk bw
        clear bw
        go_wp2_with fail
        go_roundw
        case rel => exact ⟨k + 1, by omega, by go_num, by rw [HMX1.out], by rw [HMN1.out], by rw [HRE1.out]; go_num, HRF⟩
        case measure => simp [intOf]; omega
      · skip
        have HRE1 : Bx (reTo L (k + 1) = q3) := ⟨by simp only [reTo]; rw [H3.out, hq3]; simp [hzg]⟩
        clear H3 hq1 hq2 hq3 kz1
        go_upto_region 24 with (fail)
        have lt_ga := lt_ga2
        have hB : Bx (Below wr.heap.size wr wr.drew) := ⟨(Below.refl _ _).drew⟩
        have hB0 : Bx (Below wr.heap.size wr wr) := ⟨Below.refl _ _⟩
        have qa0_d : wr.drew.cell? _ = _ := qa0
        have qa1_d : wr.drew.cell? _ = _ := qa1
        refine wp_region_held_drew (S := fun w' => w'.cell? ⟨ga, 0, none⟩ = some (.int .i64 n) ∧ w'.cell? ⟨ga, 1, none⟩ = some (.slice (some ⟨bA, oA, none⟩) a.length ca) ∧ Bx (Below wr.heap.size wr w')) (by kernel_rfl) ?hS2000 (fun hHeld => ?rest2000)
        case hS2000 => (try dsimp only); (refine (fun (hK : Bx (Below wr.heap.size wr _)) => ⟨((bcell hK.out).1 _ _ lt_ga).trans qa0, ((bcell hK.out).1 _ _ lt_ga).trans qa1, hK⟩) ?_; (first | with_reducible assumption | with_reducible exact bx_alloc (by with_reducible assumption) _ | with_reducible exact bx_drew (by with_reducible assumption) | with_reducible exact bx_drew (bx_alloc (by with_reducible assumption) _)))
        case rest2000 =>
        refine wpAnyH_take (i := 0) (v := ?v2001) (at_list rfl) (by kernel_rfl) (by kernel_rfl) (by kernel_rfl) (fun _ _ _ h => h) (Or.inl ⟨by rfl, ?hy2001⟩) (by assumption) ?rest2001
        case hy2001 => intro w hSw; (try dsimp only at hSw); go_simp; try (with_reducible rfl)
        case rest2001 =>
        try simp only [Act.put, List.setIfInBounds_toArray, List.set_cons_zero, List.set_cons_succ]
        refine wpAnyH_take (i := 1) (v := ?v2002) (at_list rfl) (by kernel_rfl) (by kernel_rfl) (by kernel_rfl) (fun _ _ _ h => h) (Or.inl ⟨by rfl, ?hy2002⟩) (by assumption) ?rest2002
        case hy2002 => intro w hSw; (try dsimp only at hSw); go_simp; try (with_reducible rfl)
        case rest2002 =>
        try simp only [Act.put, List.setIfInBounds_toArray, List.set_cons_zero, List.set_cons_succ]
        refine wpAnyH_take (i := 3) (v := ?v2003) (at_list rfl) (by kernel_rfl) (by kernel_rfl) (by kernel_rfl) (fun _ _ _ h => h) (Or.inl ⟨by rfl, ?hy2003⟩) (by assumption) ?rest2003
        case hy2003 => intro w hSw; (try dsimp only at hSw); go_simp; try (with_reducible rfl)
        case rest2003 =>
        try simp only [Act.put, List.setIfInBounds_toArray, List.set_cons_zero, List.set_cons_succ]
        refine wpAnyH_ready (rs := [2]) (by kernel_rfl) (by simp) ?_
        refine AllReadyH.cons (at_list rfl) (fun K hK => ?_) AllReadyH.nil
        go_simp
        go_at_call 17; refine (HP1.out _ _ _ (by exact HA2.out.below (Bx.out (by (first | with_reducible assumption | with_reducible exact bx_alloc (by with_reducible assumption) _ | with_reducible exact bx_drew (by with_reducible assumption) | with_reducible exact bx_drew (bx_alloc (by with_reducible assumption) _)))))).mono ?_; rintro e w23 ⟨rfl, bw23⟩; have hBw23 : Bx (Below wr.heap.size wr w23) := bx_to (by (first | with_reducible assumption | with_reducible exact bx_alloc (by with_reducible assumption) _ | with_reducible exact bx_drew (by with_reducible assumption) | with_reducible exact bx_drew (bx_alloc (by with_reducible assumption) _))) bw23; have hzw23 := bx_size hBw23; have qa0_w23 := ((bcell hBw23.out).1 _ _ lt_ga).trans qa0; have qa1_w23 := ((bcell hBw23.out).1 _ _ lt_ga).trans qa1
        refine hK.out _ _ ?hS2004 (fun hHeld => ?rest2004)
        case hS2004 => (try dsimp only); (refine (fun (hK : Bx (Below wr.heap.size wr _)) => ⟨((bcell hK.out).1 _ _ lt_ga).trans qa0, ((bcell hK.out).1 _ _ lt_ga).trans qa1, hK⟩) ?_; (first | with_reducible assumption | with_reducible exact bx_alloc (by with_reducible assumption) _ | with_reducible exact bx_drew (by with_reducible assumption) | with_reducible exact bx_drew (bx_alloc (by with_reducible assumption) _)))
        case rest2004 =>
        clear hK K
        try simp only [Act.put, List.setIfInBounds_toArray, List.set_cons_zero, List.set_cons_succ]
        refine wpAnyH_take (i := 4) (v := ?v2005) (at_list rfl) (by kernel_rfl) (by kernel_rfl) (by kernel_rfl) (fun _ _ _ h => h) (Or.inl ⟨by rfl, ?hy2005⟩) (by assumption) ?rest2005
        case hy2005 => intro w hSw; (try dsimp only at hSw); go_simp; try (with_reducible rfl)
        case rest2005 =>
        try simp only [Act.put, List.setIfInBounds_toArray, List.set_cons_zero, List.set_cons_succ]
        refine wpAnyH_take (i := 5) (v := ?v2006) (at_list rfl) (by kernel_rfl) (by kernel_rfl) (by kernel_rfl) (fun _ _ _ h => h) (Or.inl ⟨by rfl, ?hy2006⟩) (by assumption) ?rest2006
        case hy2006 => intro w hSw; (try dsimp only at hSw); go_simp; try (with_reducible rfl)
        case rest2006 =>
        try simp only [Act.put, List.setIfInBounds_toArray, List.set_cons_zero, List.set_cons_succ]
        refine wpAnyH_take (i := 6) (v := ?v2007) (at_list rfl) (by kernel_rfl) (by kernel_rfl) (by kernel_rfl) (fun _ _ _ h => h) (Or.inl ⟨by rfl, ?hy2007⟩) (by assumption) ?rest2007
        case hy2007 => intro w hSw; (try dsimp only at hSw); go_simp; try (with_reducible rfl)
        case rest2007 =>
        try simp only [Act.put, List.setIfInBounds_toArray, List.set_cons_zero, List.set_cons_succ]
        refine wpAnyH_take (i := 7) (v := ?v2008) (at_list rfl) (by kernel_rfl) (by kernel_rfl) (by kernel_rfl) (fun _ _ _ h => h) (Or.inl ⟨by rfl, ?hy2008⟩) (by assumption) ?rest2008
        case hy2008 => intro w hSw; (try dsimp only at hSw); go_simp; try (with_reducible rfl)
        case rest2008 =>
        try simp only [Act.put, List.setIfInBounds_toArray, List.set_cons_zero, List.set_cons_succ]
        refine wpAnyH_take (i := 8) (v := ?v2009) (at_list rfl) (by kernel_rfl) (by kernel_rfl) (by kernel_rfl) (fun _ _ _ h => h) (Or.inl ⟨by rfl, ?hy2009⟩) (by assumption) ?rest2009
        case hy2009 => intro w hSw; (try dsimp only at hSw); go_simp; try (with_reducible rfl)
        case rest2009 =>
        try simp only [Act.put, List.setIfInBounds_toArray, List.set_cons_zero, List.set_cons_succ]
        refine wpAnyH_take (i := 9) (v := ?v2010) (at_list rfl) (by kernel_rfl) (by kernel_rfl) (by kernel_rfl) (fun _ _ _ h => h) (Or.inl ⟨by rfl, ?hy2010⟩) (by assumption) ?rest2010
        case hy2010 => intro w hSw; (try dsimp only at hSw); go_simp; try (with_reducible rfl)
        case rest2010 =>
        try simp only [Act.put, List.setIfInBounds_toArray, List.set_cons_zero, List.set_cons_succ]
        refine wpAnyH_take (i := 11) (v := ?v2011) (at_list rfl) (by kernel_rfl) (by kernel_rfl) (by kernel_rfl) (fun _ _ _ h => h) (Or.inl ⟨by rfl, ?hy2011⟩) (by assumption) ?rest2011
        case hy2011 => intro w hSw; (try dsimp only at hSw); go_simp; try (with_reducible rfl)
        case rest2011 =>
        try simp only [Act.put, List.setIfInBounds_toArray, List.set_cons_zero, List.set_cons_succ]
        refine wpAnyH_take (i := 12) (v := ?v2012) (at_list rfl) (by kernel_rfl) (by kernel_rfl) (by kernel_rfl) (fun _ _ _ h => h) (Or.inl ⟨by rfl, ?hy2012⟩) (by assumption) ?rest2012
        case hy2012 => intro w hSw; (try dsimp only at hSw); go_simp; try (with_reducible rfl)
        case rest2012 =>
        try simp only [Act.put, List.setIfInBounds_toArray, List.set_cons_zero, List.set_cons_succ]
        refine wpAnyH_ready (rs := [10]) (by kernel_rfl) (by simp) ?_
        refine AllReadyH.cons (at_list rfl) (fun K hK => ?_) AllReadyH.nil
        go_simp
        go_at_call 17; refine (HP2.out _ _ _ (by exact HA2.out.below (Bx.out (by (first | with_reducible assumption | with_reducible exact bx_alloc (by with_reducible assumption) _ | with_reducible exact bx_drew (by with_reducible assumption) | with_reducible exact bx_drew (bx_alloc (by with_reducible assumption) _)))))).mono ?_; rintro e w24 ⟨rfl, bw24⟩; have hBw24 : Bx (Below wr.heap.size wr w24) := bx_to (by (first | with_reducible assumption | with_reducible exact bx_alloc (by with_reducible assumption) _ | with_reducible exact bx_drew (by with_reducible assumption) | with_reducible exact bx_drew (bx_alloc (by with_reducible assumption) _))) bw24; have hzw24 := bx_size hBw24; have qa0_w24 := ((bcell hBw24.out).1 _ _ lt_ga).trans qa0; have qa1_w24 := ((bcell hBw24.out).1 _ _ lt_ga).trans qa1
        refine hK.out _ _ ?hS2013 (fun hHeld => ?rest2013)
        case hS2013 => (try dsimp only); (refine (fun (hK : Bx (Below wr.heap.size wr _)) => ⟨((bcell hK.out).1 _ _ lt_ga).trans qa0, ((bcell hK.out).1 _ _ lt_ga).trans qa1, hK⟩) ?_; (first | with_reducible assumption | with_reducible exact bx_alloc (by with_reducible assumption) _ | with_reducible exact bx_drew (by with_reducible assumption) | with_reducible exact bx_drew (bx_alloc (by with_reducible assumption) _)))
        case rest2013 =>
        clear hK K
        try simp only [Act.put, List.setIfInBounds_toArray, List.set_cons_zero, List.set_cons_succ]
        refine wpAnyH_take (i := 13) (v := ?v2014) (at_list rfl) (by kernel_rfl) (by kernel_rfl) (by kernel_rfl) (fun _ _ _ h => h) (Or.inl ⟨by rfl, ?hy2014⟩) (by assumption) ?rest2014
        case hy2014 => intro w hSw; (try dsimp only at hSw); go_simp; try (with_reducible rfl)
        case rest2014 =>
        try simp only [Act.put, List.setIfInBounds_toArray, List.set_cons_zero, List.set_cons_succ]
        refine wpAnyH_take (i := 14) (v := ?v2015) (at_list rfl) (by kernel_rfl) (by kernel_rfl) (by kernel_rfl) (fun _ _ _ h => h) (Or.inl ⟨by rfl, ?hy2015⟩) (by assumption) ?rest2015
        case hy2015 => intro w hSw; (try dsimp only at hSw); go_simp; try (with_reducible rfl)
        case rest2015 =>
        try simp only [Act.put, List.setIfInBounds_toArray, List.set_cons_zero, List.set_cons_succ]
        refine wpAnyH_take (i := 15) (v := ?v2016) (at_list rfl) (by kernel_rfl) (by kernel_rfl) (by kernel_rfl) (fun _ _ _ h => h) (Or.inl ⟨by rfl, ?hy2016⟩) (by assumption) ?rest2016
        case hy2016 => intro w hSw; (try dsimp only at hSw); go_simp; try (with_reducible rfl)
        case rest2016 =>
        try simp only [Act.put, List.setIfInBounds_toArray, List.set_cons_zero, List.set_cons_succ]
        refine wpAnyH_take (i := 16) (v := ?v2017) (at_list rfl) (by kernel_rfl) (by kernel_rfl) (by kernel_rfl) (fun _ _ _ h => h) (Or.inl ⟨by rfl, ?hy2017⟩) (by assumption) ?rest2017
        case hy2017 => intro w hSw; (try dsimp only at hSw); go_simp; try (with_reducible rfl)
        case rest2017 =>
        try simp only [Act.put, List.setIfInBounds_toArray, List.set_cons_zero, List.set_cons_succ]
        refine wpAnyH_take (i := 17) (v := ?v2018) (at_list rfl) (by kernel_rfl) (by kernel_rfl) (by kernel_rfl) (fun _ _ _ h => h) (Or.inl ⟨by rfl, ?hy2018⟩) (by assumption) ?rest2018
        case hy2018 => intro w hSw; (try dsimp only at hSw); go_simp; try (with_reducible rfl)
        case rest2018 =>
        try simp only [Act.put, List.setIfInBounds_toArray, List.set_cons_zero, List.set_cons_succ]
        refine wpAnyH_ready (rs := [18]) (by kernel_rfl) (by simp) ?_
        refine AllReadyH.cons (at_list rfl) (fun K hK => ?_) AllReadyH.nil
        go_simp
        go_at_call 17; refine (HP3.out _ _ _ (by exact HA2.out.below (Bx.out (by (first | with_reducible assumption | with_reducible exact bx_alloc (by with_reducible assumption) _ | with_reducible exact bx_drew (by with_reducible assumption) | with_reducible exact bx_drew (bx_alloc (by with_reducible assumption) _)))))).mono ?_; rintro e w25 ⟨rfl, bw25⟩; have hBw25 : Bx (Below wr.heap.size wr w25) := bx_to (by (first | with_reducible assumption | with_reducible exact bx_alloc (by with_reducible assumption) _ | with_reducible exact bx_drew (by with_reducible assumption) | with_reducible exact bx_drew (bx_alloc (by with_reducible assumption) _))) bw25; have hzw25 := bx_size hBw25; have qa0_w25 := ((bcell hBw25.out).1 _ _ lt_ga).trans qa0; have qa1_w25 := ((bcell hBw25.out).1 _ _ lt_ga).trans qa1
        refine hK.out _ _ ?hS2019 (fun hHeld => ?rest2019)
        case hS2019 => (try dsimp only); (refine (fun (hK : Bx (Below wr.heap.size wr _)) => ⟨((bcell hK.out).1 _ _ lt_ga).trans qa0, ((bcell hK.out).1 _ _ lt_ga).trans qa1, hK⟩) ?_; (first | with_reducible assumption | with_reducible exact bx_alloc (by with_reducible assumption) _ | with_reducible exact bx_drew (by with_reducible assumption) | with_reducible exact bx_drew (bx_alloc (by with_reducible assumption) _)))
        case rest2019 =>
        clear hK K
        try simp only [Act.put, List.setIfInBounds_toArray, List.set_cons_zero, List.set_cons_succ]
        refine wpAnyH_take (i := 19) (v := ?v2020) (at_list rfl) (by kernel_rfl) (by kernel_rfl) (by kernel_rfl) (fun _ _ _ h => h) (Or.inl ⟨by rfl, ?hy2020⟩) (by assumption) ?rest2020
        case hy2020 => intro w hSw; (try dsimp only at hSw); go_simp; try (with_reducible rfl)
        case rest2020 =>
        try simp only [Act.put, List.setIfInBounds_toArray, List.set_cons_zero, List.set_cons_succ]
        refine wpAnyH_take (i := 20) (v := ?v2021) (at_list rfl) (by kernel_rfl) (by kernel_rfl) (by kernel_rfl) (fun _ _ _ h => h) (Or.inl ⟨by rfl, ?hy2021⟩) (by assumption) ?rest2021
        case hy2021 => intro w hSw; (try dsimp only at hSw); go_simp; try (with_reducible rfl)
        case rest2021 =>
        try simp only [Act.put, List.setIfInBounds_toArray, List.set_cons_zero, List.set_cons_succ]
        refine wpAnyH_done (by kernel_rfl) ?_ _
        have b := hBw25.out
        replace qa0 := ((bcell b).1 _ _ lt_ga).trans qa0
        replace qa1 := ((bcell b).1 _ _ lt_ga).trans qa1
        replace lt_ga := Nat.lt_of_lt_of_le lt_ga b.size
        replace HA2 := Bx.mk (HA2.out.below b)
        replace bw := bw.trans (b.mono bw.size)
        clear b
        have HRF := Bx.mk bw
        clear bw
        go_wp2_with fail
        go_roundw
        case rel => exact ⟨k + 1, by omega, by go_num, by rw [HMX1.out], by rw [HMN1.out], by rw [HRE1.out], HRF⟩
        case measure => simp [intOf]; omega
    have hke : k = L.length := by omega
    have hli : ¬ (k : Int) < (L.length : Int) := by omega
    have e1 : q1 = Mx := by rw [hq1, hke, HMX.out]
    have e2 : q2 = Mn := by rw [hq2, hke, HMN.out]
    have e3 : q3 = Re := by rw [hq3, hke, HRE.out]
    subst e1 e2 e3
    have b := HR.out
    clear HR hke hq1 hq2 hq3 hx5
    replace kga0 := ((bcell b).1 _ _ lt_ga).trans kga0
    replace kga1 := ((bcell b).1 _ _ lt_ga).trans kga1
    replace kgx0 := ((bcell b).1 _ _ lt_gx).trans kgx0
    replace kgx1 := ((bcell b).1 _ _ lt_gx).trans kgx1
    replace kgt0 := ((bcell b).1 _ _ lt_gt).trans kgt0
    replace kgt1 := ((bcell b).1 _ _ lt_gt).trans kgt1
    replace kgm0 := ((bcell b).1 _ _ lt_gm).trans kgm0
    replace kgm1 := ((bcell b).1 _ _ lt_gm).trans kgm1
    replace lt_ga := Nat.lt_of_lt_of_le lt_ga b.size
    replace lt_gx := Nat.lt_of_lt_of_le lt_gx b.size
    replace lt_gt := Nat.lt_of_lt_of_le lt_gt b.size
    replace lt_gm := Nat.lt_of_lt_of_le lt_gm b.size
    replace HA := Bx.mk (HA.out.below b)
    replace HLr := Bx.mk (HLr.out.below b)
    replace HXr := Bx.mk (HXr.out.below b)
    replace HTr := Bx.mk (HTr.out.below b)
    replace HMr := Bx.mk (HMr.out.below b)
    replace bw := bw.trans (b.mono bw.size)
    clear b
    go_wp2_with fail
    refine (HSZ.out _ _ _ (by exact HA.out)).mono ?_
    rintro e w26 ⟨AZ, cZ, rfl, io, b⟩
    replace kga0 := ((bcell b).1 _ _ lt_ga).trans kga0
    replace kga1 := ((bcell b).1 _ _ lt_ga).trans kga1
    replace kgx0 := ((bcell b).1 _ _ lt_gx).trans kgx0
    replace kgx1 := ((bcell b).1 _ _ lt_gx).trans kgx1
    replace kgt0 := ((bcell b).1 _ _ lt_gt).trans kgt0
    replace kgt1 := ((bcell b).1 _ _ lt_gt).trans kgt1
    replace kgm0 := ((bcell b).1 _ _ lt_gm).trans kgm0
    replace kgm1 := ((bcell b).1 _ _ lt_gm).trans kgm1
    replace lt_ga := Nat.lt_of_lt_of_le lt_ga b.size
    replace lt_gx := Nat.lt_of_lt_of_le lt_gx b.size
    replace lt_gt := Nat.lt_of_lt_of_le lt_gt b.size
    replace lt_gm := Nat.lt_of_lt_of_le lt_gm b.size
    replace HA := Bx.mk (HA.out.below b)
    replace HLr := Bx.mk (HLr.out.below b)
    replace HXr := Bx.mk (HXr.out.below b)
    replace HTr := Bx.mk (HTr.out.below b)
    replace HMr := Bx.mk (HMr.out.below b)
    replace bw := bw.trans (b.mono bw.size)
    clear b
    have HZr := Bx.mk io.reads
    clear io
    obtain ⟨bZ, oZ, y0, rfl, lt_bZ, kz0, H0⟩ := HZr.out.one (k := 0) HZP.out
    obtain ⟨j, hj⟩ : ∃ j : Nat, j = Z.length - 1 := ⟨_, rfl⟩
    have hzp := HZP.out
    have hzb := HZB.out
    obtain ⟨b2, o2, y1, e2, _, kz1, H1⟩ := HZr.out.one (k := j) (by omega)
    injection e2 with e2
    injection e2 with e3 e4
    subst e3 e4
    have ey0 : y0 = q2 := by rw [← HZ0.out, H0.out]; rfl
    have ey1 : y1 = q1 := by rw [← HZL.out, ← hj, H1.out]; rfl
    subst ey0 ey1
    have kz0' : w26.cell? ⟨bZ, oZ, none⟩ = some (.int .i64 y0) := kz0
    have hji : (Z.length : Int) - 1 = (j : Int) := by omega
    have hjl : (j : Int) < (Z.length : Int) := by omega
    have hzi : (0 : Int) < (Z.length : Int) := by omega
    clear H0 H1 kz0 hj
    go_wp2_with fail
    refine (HLO.out _ _ _ (by exact HA.out)).mono ?_
    rintro e w27 ⟨rfl, b⟩
    replace kga0 := ((bcell b).1 _ _ lt_ga).trans kga0
    replace kga1 := ((bcell b).1 _ _ lt_ga).trans kga1
    replace kgx0 := ((bcell b).1 _ _ lt_gx).trans kgx0
    replace kgx1 := ((bcell b).1 _ _ lt_gx).trans kgx1
    replace kgt0 := ((bcell b).1 _ _ lt_gt).trans kgt0
    replace kgt1 := ((bcell b).1 _ _ lt_gt).trans kgt1
    replace kgm0 := ((bcell b).1 _ _ lt_gm).trans kgm0
    replace kgm1 := ((bcell b).1 _ _ lt_gm).trans kgm1
    replace kz0' := ((bcell b).1 _ _ lt_bZ).trans kz0'
    replace kz1 := ((bcell b).1 _ _ lt_bZ).trans kz1
    replace lt_ga := Nat.lt_of_lt_of_le lt_ga b.size
    replace lt_gx := Nat.lt_of_lt_of_le lt_gx b.size
    replace lt_gt := Nat.lt_of_lt_of_le lt_gt b.size
    replace lt_gm := Nat.lt_of_lt_of_le lt_gm b.size
    replace lt_bZ := Nat.lt_of_lt_of_le lt_bZ b.size
    replace HA := Bx.mk (HA.out.below b)
    replace HLr := Bx.mk (HLr.out.below b)
    replace HXr := Bx.mk (HXr.out.below b)
    replace HTr := Bx.mk (HTr.out.below b)
    replace HMr := Bx.mk (HMr.out.below b)
    replace HZr := Bx.mk (HZr.out.below b)
    replace bw := bw.trans (b.mono bw.size)
    clear b
    go_wp2_with fail
    refine (HSH.out _ _ _ (by exact HA.out)).mono ?_
    rintro e w28 ⟨rfl, b⟩
    replace kga0 := ((bcell b).1 _ _ lt_ga).trans kga0
    replace kga1 := ((bcell b).1 _ _ lt_ga).trans kga1
    replace kgx0 := ((bcell b).1 _ _ lt_gx).trans kgx0
    replace kgx1 := ((bcell b).1 _ _ lt_gx).trans kgx1
    replace kgt0 := ((bcell b).1 _ _ lt_gt).trans kgt0
    replace kgt1 := ((bcell b).1 _ _ lt_gt).trans kgt1
    replace kgm0 := ((bcell b).1 _ _ lt_gm).trans kgm0
    replace kgm1 := ((bcell b).1 _ _ lt_gm).trans kgm1
    replace kz0' := ((bcell b).1 _ _ lt_bZ).trans kz0'
    replace kz1 := ((bcell b).1 _ _ lt_bZ).trans kz1
    replace lt_ga := Nat.lt_of_lt_of_le lt_ga b.size
    replace lt_gx := Nat.lt_of_lt_of_le lt_gx b.size
    replace lt_gt := Nat.lt_of_lt_of_le lt_gt b.size
    replace lt_gm := Nat.lt_of_lt_of_le lt_gm b.size
    replace lt_bZ := Nat.lt_of_lt_of_le lt_bZ b.size
    replace HA := Bx.mk (HA.out.below b)
    replace HLr := Bx.mk (HLr.out.below b)
    replace HXr := Bx.mk (HXr.out.below b)
    replace HTr := Bx.mk (HTr.out.below b)
    replace HMr := Bx.mk (HMr.out.below b)
    replace HZr := Bx.mk (HZr.out.below b)
    replace bw := bw.trans (b.mono bw.size)
    clear b
    go_wp2_with fail
    refine (HRS.out _ _ _ (by exact HA.out)).mono ?_
    rintro e w29 ⟨rfl, b⟩
    replace kga0 := ((bcell b).1 _ _ lt_ga).trans kga0
    replace kga1 := ((bcell b).1 _ _ lt_ga).trans kga1
    replace kgx0 := ((bcell b).1 _ _ lt_gx).trans kgx0
    replace kgx1 := ((bcell b).1 _ _ lt_gx).trans kgx1
    replace kgt0 := ((bcell b).1 _ _ lt_gt).trans kgt0
    replace kgt1 := ((bcell b).1 _ _ lt_gt).trans kgt1
    replace kgm0 := ((bcell b).1 _ _ lt_gm).trans kgm0
    replace kgm1 := ((bcell b).1 _ _ lt_gm).trans kgm1
    replace kz0' := ((bcell b).1 _ _ lt_bZ).trans kz0'
    replace kz1 := ((bcell b).1 _ _ lt_bZ).trans kz1
    replace lt_ga := Nat.lt_of_lt_of_le lt_ga b.size
    replace lt_gx := Nat.lt_of_lt_of_le lt_gx b.size
    replace lt_gt := Nat.lt_of_lt_of_le lt_gt b.size
    replace lt_gm := Nat.lt_of_lt_of_le lt_gm b.size
    replace lt_bZ := Nat.lt_of_lt_of_le lt_bZ b.size
    replace HA := Bx.mk (HA.out.below b)
    replace HLr := Bx.mk (HLr.out.below b)
    replace HXr := Bx.mk (HXr.out.below b)
    replace HTr := Bx.mk (HTr.out.below b)
    replace HMr := Bx.mk (HMr.out.below b)
    replace HZr := Bx.mk (HZr.out.below b)
    replace bw := bw.trans (b.mono bw.size)
    clear b
    go_wp2_with fail
    refine (HS1.out _ _ _ (by exact HA.out)).mono ?_
    rintro e w30 ⟨AS, cS, rfl, io, b⟩
    replace kga0 := ((bcell b).1 _ _ lt_ga).trans kga0
    replace kga1 := ((bcell b).1 _ _ lt_ga).trans kga1
    replace kgx0 := ((bcell b).1 _ _ lt_gx).trans kgx0
    replace kgx1 := ((bcell b).1 _ _ lt_gx).trans kgx1
    replace kgt0 := ((bcell b).1 _ _ lt_gt).trans kgt0
    replace kgt1 := ((bcell b).1 _ _ lt_gt).trans kgt1
    replace kgm0 := ((bcell b).1 _ _ lt_gm).trans kgm0
    replace kgm1 := ((bcell b).1 _ _ lt_gm).trans kgm1
    replace kz0' := ((bcell b).1 _ _ lt_bZ).trans kz0'
    replace kz1 := ((bcell b).1 _ _ lt_bZ).trans kz1
    replace lt_ga := Nat.lt_of_lt_of_le lt_ga b.size
    replace lt_gx := Nat.lt_of_lt_of_le lt_gx b.size
    replace lt_gt := Nat.lt_of_lt_of_le lt_gt b.size
    replace lt_gm := Nat.lt_of_lt_of_le lt_gm b.size
    replace lt_bZ := Nat.lt_of_lt_of_le lt_bZ b.size
    replace HA := Bx.mk (HA.out.below b)
    replace HLr := Bx.mk (HLr.out.below b)
    replace HXr := Bx.mk (HXr.out.below b)
    replace HTr := Bx.mk (HTr.out.below b)
    replace HMr := Bx.mk (HMr.out.below b)
    replace HZr := Bx.mk (HZr.out.below b)
    replace bw := bw.trans (b.mono bw.size)
    clear b
    have HSr := Bx.mk io.reads
    clear io
    go_wp2_with fail
    refine (HSE.out _ _ _ _ _ (by exact HSr.out) (by exact HZr.out)).mono ?_
    rintro e w' ⟨rfl, rfl⟩
    go_wp2_with fail
    have hy1 : (((Y.length : Nat) : Int) == 1) = true := by rw [beq_iff_eq, HYL.out]; rfl
    refine (HSN.out _ _ _ (by exact HA.out)).mono ?_
    rintro e w31 ⟨AN, cN, rfl, io, b⟩
    replace kga0 := ((bcell b).1 _ _ lt_ga).trans kga0
    replace kga1 := ((bcell b).1 _ _ lt_ga).trans kga1
    replace kgx0 := ((bcell b).1 _ _ lt_gx).trans kgx0
    replace kgx1 := ((bcell b).1 _ _ lt_gx).trans kgx1
    replace kgt0 := ((bcell b).1 _ _ lt_gt).trans kgt0
    replace kgt1 := ((bcell b).1 _ _ lt_gt).trans kgt1
    replace kgm0 := ((bcell b).1 _ _ lt_gm).trans kgm0
    replace kgm1 := ((bcell b).1 _ _ lt_gm).trans kgm1
    replace kz0' := ((bcell b).1 _ _ lt_bZ).trans kz0'
    replace kz1 := ((bcell b).1 _ _ lt_bZ).trans kz1
    replace lt_ga := Nat.lt_of_lt_of_le lt_ga b.size
    replace lt_gx := Nat.lt_of_lt_of_le lt_gx b.size
    replace lt_gt := Nat.lt_of_lt_of_le lt_gt b.size
    replace lt_gm := Nat.lt_of_lt_of_le lt_gm b.size
    replace lt_bZ := Nat.lt_of_lt_of_le lt_bZ b.size
    replace HA := Bx.mk (HA.out.below b)
    replace HLr := Bx.mk (HLr.out.below b)
    replace HXr := Bx.mk (HXr.out.below b)
    replace HTr := Bx.mk (HTr.out.below b)
    replace HMr := Bx.mk (HMr.out.below b)
    replace HZr := Bx.mk (HZr.out.below b)
    replace HSr := Bx.mk (HSr.out.below b)
    replace bw := bw.trans (b.mono bw.size)
    clear b
    clear io
    go_wp2_with fail
    go_ret
    exact ⟨rfl, bw⟩
end Go.Proofs.YtbfaagdcifpcgaaGreatDoor
