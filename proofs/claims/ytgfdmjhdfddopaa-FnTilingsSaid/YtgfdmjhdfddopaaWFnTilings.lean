/- The law FnTilings, walked. -/
import Derived.Test.YtgfdmjhdfddopaaRegM
import Derived.Test.YtgfdmjhdfddopaaTilPl2
import Derived.Test.YtgfdmjhdfddopaaDrTile
import Derived.Test.YtgfdmjhdfddopaaStr
import Derived.Test.YtgfdmjhdfddopaaCms
import Derived.Test.YtgfdmjhdfddopaaPps
import Derived.Test.YtgfdmjhdfddopaaLawH
import Derived.Test.YtgfdmjhdfddopaaDiff
import Derived.Test.YtgfdmjhdfddopaaLawB
import Derived.Test.YtgfdmjhdfddopaaBas
import Derived.Test.YtgfdmjhdfddopaaFinWords
import Derived.Deep.RegionHeld3
import Derived.Deep.DeepCutAuto
namespace Go.Proofs.Ytgfdmjhdfddopaa
open Go.RowKit
set_option maxRecDepth 20000

set_option linter.unusedSimpArgs false
set_option maxHeartbeats 16000000 in
set_option maxRecDepth 100000 in
theorem walkFnTilings (w : World) (A0 : Option Addr) (c0 : Nat) (xs0 : List Int) (ha0 : AR .u8 w A0 xs0) (hf0 : ∀ x ∈ xs0, 0 ≤ x ∧ x ≤ 255) :
    Calls Try.prog 3 #[.slice A0 xs0.length c0] w fun e w' => e = .returned (.bool true) ∧ Below w.heap.size w w' := by
  obtain ⟨n0, hn0⟩ : ∃ n0, n0 = xs0.length := ⟨_, rfl⟩
  by_cases hbig : n0 ≤ 1048576
  rotate_left
  · have hgt : (n0 : Int) > 1048576 := by omega
    rw [← hn0]
    clear hn0
    go_enter Try.func3, Try.ntmps3
    go_wp2_with fail
    go_ret
    exact ⟨rfl, Below.refl _ _⟩
  have HB : Bx (BR w A0 n0) := ⟨br_of hn0 hbig ha0 hf0⟩
  have bw : Below w.heap.size w w := Below.refl _ _
  have hgt : ¬ (n0 : Int) > 1048576 := by omega
  rw [← hn0]
  clear hn0 ha0 hf0
  go_enter Try.func3, Try.ntmps3
  go_wp2_with fail
  refine (makeTile_any _ _ _ 0 _ (by omega) (by exact HB.out)).mono ?_
  rintro e w1 ⟨n, a, b', Aa, ca, Ab, cb, hts, HTP, rfl, io, io2, b⟩
  replace HB := Bx.mk (HB.out.below b)
  replace bw := bw.trans (b.mono bw.size)
  clear b
  have HA := Bx.mk io
  have HBb := Bx.mk io2
  clear io io2
  have hn1 : 1 ≤ n := by unfold tileSz at hts; omega
  have hn12 : n ≤ 12 := by unfold tileSz at hts; omega
  clear hts
  have HAOK : Bx (rhOk n a = true) := ⟨HTP.out.1⟩
  have HBOK : Bx (rhOk n b' = true) := ⟨HTP.out.2.1⟩
  have HTI : Bx (tilesB n a b' = true) := ⟨HTP.out.2.2⟩
  have hal := (rhOk_len HAOK.out).1
  have hbl := (rhOk_len HBOK.out).1
  obtain ⟨m, hm⟩ : ∃ m : Nat, m = 2 * n := ⟨_, rfl⟩
  have hmi : 2 * (n : Int) = (m : Int) := by omega
  have hm24 : m ≤ 24 := by omega
  obtain ⟨X, hX⟩ : ∃ X, X = mulL 2 a := ⟨_, rfl⟩
  obtain ⟨Y, hY⟩ : ∃ Y, Y = strY 2 b' b'.length := ⟨_, rfl⟩
  have HXOK : Bx (rhOk m X = true) := ⟨by rw [hX, hm]; exact mul2_ok HAOK.out hn12⟩
  have HYOK : Bx (rhOk m Y = true) := ⟨by rw [hY, hm]; exact str2_ok HBOK.out hn12⟩
  have HXT : Bx (tilesB m X Y = true) := ⟨by rw [hX, hY, hm]; exact tile_str hn12 HAOK.out HBOK.out HTI.out⟩
  have HTQ : Bx (TileQ n a b') := ⟨(tile_iff hn12 HAOK.out HBOK.out (tiles_mul HTI.out)).2 HTI.out⟩
  have HLXY : Bx ((leftI m X m Y).length = 0) := ⟨(left_nil HXOK.out HYOK.out).2 (by rw [hX, hY, hm]; exact HTQ.out.left)⟩
  have HLAB : Bx ((leftI n a n b').length = 0) := ⟨(left_nil HAOK.out HBOK.out).2 ((tile_iff hn12 HAOK.out HBOK.out (tiles_mul HTI.out)).1.1 HTI.out)⟩
  have hn64 : Bx (-9223372036854775808 ≤ (n : Int) ∧ (n : Int) ≤ 9223372036854775807) := ⟨by omega⟩
  have hm64 : Bx (-9223372036854775808 ≤ (m : Int) ∧ (m : Int) ≤ 9223372036854775807) := ⟨by omega⟩
  have HS1 : Bx (∀ A B c d W, IR W A a → IR W B b' → Calls Try.prog 6 #[.agg #[.int .i64 n, .slice A a.length c], .agg #[.int .i64 n, .slice B b'.length d], .int .i64 2] W (GivesRR W m X m Y true)) := ⟨fun A B c d W h1 h2 => by
    have := implStr_any n n A B c d a b' 2 W hn64.out hn64.out (by decide) h1 h2
    have hok : strOk n a n b' 2 = true := by
      unfold strOk
      rw [btw_tiles HAOK.out HBOK.out, HTI.out, show inB 2 1 24 = true from rfl, decide_eq_true (show (2 : Int) * (n : Int) ≤ 24 by omega)]; rfl
    unfold strS strA strB at this
    rw [hok, if_pos rfl, if_pos rfl, if_pos rfl, hmi, show strX 2 a a.length = X by rw [hX]; unfold strX mulL; rw [List.take_length], ← hY] at this
    exact this⟩
  have HT1 : Bx (∀ A B c d W, IR W A a → IR W B b' → Calls Try.prog 7 #[.agg #[.int .i64 n, .slice A a.length c], .agg #[.int .i64 n, .slice B b'.length d]] W fun e w' => e = .returned (.bool true) ∧ Below W.heap.size W w') := ⟨fun A B c d W h1 h2 => by
    have := implIsTiling_any n n A B c d a b' W hn64.out hn64.out h1 h2
    rw [btw_tiles HAOK.out HBOK.out, HTI.out] at this
    exact this⟩
  have HT2 : Bx (∀ A B c d W, IR W A X → IR W B Y → Calls Try.prog 7 #[.agg #[.int .i64 m, .slice A X.length c], .agg #[.int .i64 m, .slice B Y.length d]] W fun e w' => e = .returned (.bool true) ∧ Below W.heap.size W w') := ⟨fun A B c d W h1 h2 => by
    have := implIsTiling_any m m A B c d X Y W hm64.out hm64.out h1 h2
    rw [btw_tiles HXOK.out HYOK.out, HXT.out] at this
    exact this⟩
  have HO1 : Bx (∀ A B c d W, IR W A a → IR W B b' → Calls Try.prog 8 #[.agg #[.int .i64 n, .slice A a.length c], .agg #[.int .i64 n, .slice B b'.length d]] W fun e w' => ∃ A2 c2, e = .returned (.slice A2 0 c2) ∧ Below W.heap.size W w') := ⟨fun A B c d W h1 h2 => by
    refine (implLeft_any n n A B c d a b' W hn64.out hn64.out h1 h2).mono fun e w' h => ?_
    obtain ⟨A2, c2, e1, _, e3⟩ := h
    exact ⟨A2, c2, by rw [e1, HLAB.out], e3⟩⟩
  have HO2 : Bx (∀ A B c d W, IR W A X → IR W B Y → Calls Try.prog 8 #[.agg #[.int .i64 m, .slice A X.length c], .agg #[.int .i64 m, .slice B Y.length d]] W fun e w' => ∃ A2 c2, e = .returned (.slice A2 0 c2) ∧ Below W.heap.size W w') := ⟨fun A B c d W h1 h2 => by
    refine (implLeft_any m m A B c d X Y W hm64.out hm64.out h1 h2).mono fun e w' h => ?_
    obtain ⟨A2, c2, e1, _, e3⟩ := h
    exact ⟨A2, c2, by rw [e1, HLXY.out], e3⟩⟩
  have hMi : (a.length : Int) * (b'.length : Int) = (n : Int) := by have := tiles_mul HTI.out; rw [← this]; simp
  clear hX hY hm HLXY HLAB HXT HTP
  obtain ⟨w2, hW⟩ : ∃ w2, w2 = (w1.alloc (.cells #[.int .i64 n, .slice Aa a.length ca] 25)).alloc (.cells #[.int .i64 n, .slice Ab b'.length cb] 25) := ⟨_, rfl⟩
  obtain ⟨ga, hg⟩ : ∃ ga, ga = w1.heap.size := ⟨_, rfl⟩
  obtain ⟨gb, hg'⟩ : ∃ gb, gb = w1.heap.size + 1 := ⟨_, rfl⟩
  have b : Below w1.heap.size w1 w2 := by rw [hW]; exact (below_alloc _ _).alloc (by simp) _
  have kga0 : w2.cell? ⟨ga, 0, none⟩ = some (.int .i64 n) := by rw [hW, hg]; simp [go_sem]
  have kga1 : w2.cell? ⟨ga, 1, none⟩ = some (.slice Aa a.length ca) := by rw [hW, hg]; simp [go_sem]
  have lt_ga : ga < w2.heap.size := by rw [hW, hg]; simp <;> omega
  have kgb0 : w2.cell? ⟨gb, 0, none⟩ = some (.int .i64 n) := by rw [hW, hg']; simp [go_sem]
  have kgb1 : w2.cell? ⟨gb, 1, none⟩ = some (.slice Ab b'.length cb) := by rw [hW, hg']; simp [go_sem]
  have lt_gb : gb < w2.heap.size := by rw [hW, hg']; simp <;> omega
  replace HA := Bx.mk (HA.out.below b)
  replace HBb := Bx.mk (HBb.out.below b)
  replace HB := Bx.mk (HB.out.below b)
  replace bw := bw.trans (b.mono bw.size)
  clear b
  go_upto_region 4 with (fail)
  rw [← hW, ← hg', ← hg]
  clear hW hg hg'
  go_wp2_with fail
  refine (HS1.out _ _ _ _ _ (by exact HA.out) (by exact HBb.out)).mono ?_
  rintro e w3 ⟨AX, cX, AY, cY, m', rfl, _, ob, io, b⟩
  replace kga0 := ((bcell b).1 _ _ lt_ga).trans kga0
  replace kga1 := ((bcell b).1 _ _ lt_ga).trans kga1
  replace kgb0 := ((bcell b).1 _ _ lt_gb).trans kgb0
  replace kgb1 := ((bcell b).1 _ _ lt_gb).trans kgb1
  replace lt_ga := Nat.lt_of_lt_of_le lt_ga b.size
  replace lt_gb := Nat.lt_of_lt_of_le lt_gb b.size
  replace HA := Bx.mk (HA.out.below b)
  replace HBb := Bx.mk (HBb.out.below b)
  replace HB := Bx.mk (HB.out.below b)
  replace bw := bw.trans (b.mono bw.size)
  clear b
  have HXr := Bx.mk ob.1.reads
  have HYr := Bx.mk io.reads
  clear ob io
  obtain ⟨w4, hW⟩ : ∃ w4, w4 = (w3.alloc (.cells #[.int .i64 m, .slice AX X.length cX] 25)).alloc (.cells #[.int .i64 m, .slice AY Y.length cY] 25) := ⟨_, rfl⟩
  obtain ⟨gx, hg⟩ : ∃ gx, gx = w3.heap.size := ⟨_, rfl⟩
  obtain ⟨gy, hg'⟩ : ∃ gy, gy = w3.heap.size + 1 := ⟨_, rfl⟩
  have b : Below w3.heap.size w3 w4 := by rw [hW]; exact (below_alloc _ _).alloc (by simp) _
  have kgx0 : w4.cell? ⟨gx, 0, none⟩ = some (.int .i64 m) := by rw [hW, hg]; simp [go_sem]
  have kgx1 : w4.cell? ⟨gx, 1, none⟩ = some (.slice AX X.length cX) := by rw [hW, hg]; simp [go_sem]
  have lt_gx : gx < w4.heap.size := by rw [hW, hg]; simp <;> omega
  have kgy0 : w4.cell? ⟨gy, 0, none⟩ = some (.int .i64 m) := by rw [hW, hg']; simp [go_sem]
  have kgy1 : w4.cell? ⟨gy, 1, none⟩ = some (.slice AY Y.length cY) := by rw [hW, hg']; simp [go_sem]
  have lt_gy : gy < w4.heap.size := by rw [hW, hg']; simp <;> omega
  replace kga0 := ((bcell b).1 _ _ lt_ga).trans kga0
  replace kga1 := ((bcell b).1 _ _ lt_ga).trans kga1
  replace kgb0 := ((bcell b).1 _ _ lt_gb).trans kgb0
  replace kgb1 := ((bcell b).1 _ _ lt_gb).trans kgb1
  replace lt_ga := Nat.lt_of_lt_of_le lt_ga b.size
  replace lt_gb := Nat.lt_of_lt_of_le lt_gb b.size
  replace HA := Bx.mk (HA.out.below b)
  replace HBb := Bx.mk (HBb.out.below b)
  replace HXr := Bx.mk (HXr.out.below b)
  replace HYr := Bx.mk (HYr.out.below b)
  replace HB := Bx.mk (HB.out.below b)
  replace bw := bw.trans (b.mono bw.size)
  clear b
  go_upto_region 6 with (fail)
  rw [← hW, ← hg', ← hg]
  clear hW hg hg'
  go_wp2_with fail
  refine (HT1.out _ _ _ _ _ (by exact HA.out) (by exact HBb.out)).mono ?_
  rintro e w5 ⟨rfl, b⟩
  replace kga0 := ((bcell b).1 _ _ lt_ga).trans kga0
  replace kga1 := ((bcell b).1 _ _ lt_ga).trans kga1
  replace kgb0 := ((bcell b).1 _ _ lt_gb).trans kgb0
  replace kgb1 := ((bcell b).1 _ _ lt_gb).trans kgb1
  replace kgx0 := ((bcell b).1 _ _ lt_gx).trans kgx0
  replace kgx1 := ((bcell b).1 _ _ lt_gx).trans kgx1
  replace kgy0 := ((bcell b).1 _ _ lt_gy).trans kgy0
  replace kgy1 := ((bcell b).1 _ _ lt_gy).trans kgy1
  replace lt_ga := Nat.lt_of_lt_of_le lt_ga b.size
  replace lt_gb := Nat.lt_of_lt_of_le lt_gb b.size
  replace lt_gx := Nat.lt_of_lt_of_le lt_gx b.size
  replace lt_gy := Nat.lt_of_lt_of_le lt_gy b.size
  replace HA := Bx.mk (HA.out.below b)
  replace HBb := Bx.mk (HBb.out.below b)
  replace HXr := Bx.mk (HXr.out.below b)
  replace HYr := Bx.mk (HYr.out.below b)
  replace HB := Bx.mk (HB.out.below b)
  replace bw := bw.trans (b.mono bw.size)
  clear b
  go_wp2_with fail
  have hm24i : (m : Int) ≤ 24 := by omega
  have hnn : (((n : Nat) : Int) != (n : Int)) = false := by simp
  have hmm : (((m : Nat) : Int) != (m : Int)) = false := by simp
  refine (HO1.out _ _ _ _ _ (by exact HA.out) (by exact HBb.out)).mono ?_
  rintro e w6 ⟨A2, c2, rfl, b⟩
  replace kga0 := ((bcell b).1 _ _ lt_ga).trans kga0
  replace kga1 := ((bcell b).1 _ _ lt_ga).trans kga1
  replace kgb0 := ((bcell b).1 _ _ lt_gb).trans kgb0
  replace kgb1 := ((bcell b).1 _ _ lt_gb).trans kgb1
  replace kgx0 := ((bcell b).1 _ _ lt_gx).trans kgx0
  replace kgx1 := ((bcell b).1 _ _ lt_gx).trans kgx1
  replace kgy0 := ((bcell b).1 _ _ lt_gy).trans kgy0
  replace kgy1 := ((bcell b).1 _ _ lt_gy).trans kgy1
  replace lt_ga := Nat.lt_of_lt_of_le lt_ga b.size
  replace lt_gb := Nat.lt_of_lt_of_le lt_gb b.size
  replace lt_gx := Nat.lt_of_lt_of_le lt_gx b.size
  replace lt_gy := Nat.lt_of_lt_of_le lt_gy b.size
  replace HA := Bx.mk (HA.out.below b)
  replace HBb := Bx.mk (HBb.out.below b)
  replace HXr := Bx.mk (HXr.out.below b)
  replace HYr := Bx.mk (HYr.out.below b)
  replace HB := Bx.mk (HB.out.below b)
  replace bw := bw.trans (b.mono bw.size)
  clear b
  go_wp2_with fail
  refine (HT2.out _ _ _ _ _ (by exact HXr.out) (by exact HYr.out)).mono ?_
  rintro e w7 ⟨rfl, b⟩
  replace kga0 := ((bcell b).1 _ _ lt_ga).trans kga0
  replace kga1 := ((bcell b).1 _ _ lt_ga).trans kga1
  replace kgb0 := ((bcell b).1 _ _ lt_gb).trans kgb0
  replace kgb1 := ((bcell b).1 _ _ lt_gb).trans kgb1
  replace kgx0 := ((bcell b).1 _ _ lt_gx).trans kgx0
  replace kgx1 := ((bcell b).1 _ _ lt_gx).trans kgx1
  replace kgy0 := ((bcell b).1 _ _ lt_gy).trans kgy0
  replace kgy1 := ((bcell b).1 _ _ lt_gy).trans kgy1
  replace lt_ga := Nat.lt_of_lt_of_le lt_ga b.size
  replace lt_gb := Nat.lt_of_lt_of_le lt_gb b.size
  replace lt_gx := Nat.lt_of_lt_of_le lt_gx b.size
  replace lt_gy := Nat.lt_of_lt_of_le lt_gy b.size
  replace HA := Bx.mk (HA.out.below b)
  replace HBb := Bx.mk (HBb.out.below b)
  replace HXr := Bx.mk (HXr.out.below b)
  replace HYr := Bx.mk (HYr.out.below b)
  replace HB := Bx.mk (HB.out.below b)
  replace bw := bw.trans (b.mono bw.size)
  clear b
  go_wp2_with fail
  refine (HO2.out _ _ _ _ _ (by exact HXr.out) (by exact HYr.out)).mono ?_
  rintro e w8 ⟨A3, c3, rfl, b⟩
  replace kga0 := ((bcell b).1 _ _ lt_ga).trans kga0
  replace kga1 := ((bcell b).1 _ _ lt_ga).trans kga1
  replace kgb0 := ((bcell b).1 _ _ lt_gb).trans kgb0
  replace kgb1 := ((bcell b).1 _ _ lt_gb).trans kgb1
  replace kgx0 := ((bcell b).1 _ _ lt_gx).trans kgx0
  replace kgx1 := ((bcell b).1 _ _ lt_gx).trans kgx1
  replace kgy0 := ((bcell b).1 _ _ lt_gy).trans kgy0
  replace kgy1 := ((bcell b).1 _ _ lt_gy).trans kgy1
  replace lt_ga := Nat.lt_of_lt_of_le lt_ga b.size
  replace lt_gb := Nat.lt_of_lt_of_le lt_gb b.size
  replace lt_gx := Nat.lt_of_lt_of_le lt_gx b.size
  replace lt_gy := Nat.lt_of_lt_of_le lt_gy b.size
  replace HA := Bx.mk (HA.out.below b)
  replace HBb := Bx.mk (HBb.out.below b)
  replace HXr := Bx.mk (HXr.out.below b)
  replace HYr := Bx.mk (HYr.out.below b)
  replace HB := Bx.mk (HB.out.below b)
  replace bw := bw.trans (b.mono bw.size)
  clear b
  go_wp2_with fail
  clear hMi hnn hmm hm24i HS1 HT1 HT2 HO1 HO2 HXr HYr kgx0 kgx1 kgy0 kgy1 lt_gx lt_gy HXOK HYOK hmi hm64
  refine (makeOf_any _ _ _ 40 n _ (by omega) hn1 (by omega) (by exact HB.out)).mono ?_
  rintro e w9 ⟨r, hrok, Ar, cr, rfl, io, b⟩
  replace kga0 := ((bcell b).1 _ _ lt_ga).trans kga0
  replace kga1 := ((bcell b).1 _ _ lt_ga).trans kga1
  replace kgb0 := ((bcell b).1 _ _ lt_gb).trans kgb0
  replace kgb1 := ((bcell b).1 _ _ lt_gb).trans kgb1
  replace lt_ga := Nat.lt_of_lt_of_le lt_ga b.size
  replace lt_gb := Nat.lt_of_lt_of_le lt_gb b.size
  replace HA := Bx.mk (HA.out.below b)
  replace HBb := Bx.mk (HBb.out.below b)
  replace HB := Bx.mk (HB.out.below b)
  replace bw := bw.trans (b.mono bw.size)
  clear b
  have HROK := Bx.mk hrok
  have hrl := (rhOk_len hrok).1
  clear hrok
  have HR := Bx.mk io.reads
  clear io
  obtain ⟨w10, hW⟩ : ∃ w10, w10 = w9.alloc (.cells #[.int .i64 n, .slice Ar r.length cr] 25) := ⟨_, rfl⟩
  obtain ⟨gr, hg⟩ : ∃ gr, gr = w9.heap.size := ⟨_, rfl⟩
  have b : Below w9.heap.size w9 w10 := by rw [hW]; exact below_alloc _ _
  have kgr0 : w10.cell? ⟨gr, 0, none⟩ = some (.int .i64 n) := by rw [hW, hg]; simp [go_sem]
  have kgr1 : w10.cell? ⟨gr, 1, none⟩ = some (.slice Ar r.length cr) := by rw [hW, hg]; simp [go_sem]
  have lt_gr : gr < w10.heap.size := by rw [hW, hg]; simp
  replace kga0 := ((bcell b).1 _ _ lt_ga).trans kga0
  replace kga1 := ((bcell b).1 _ _ lt_ga).trans kga1
  replace kgb0 := ((bcell b).1 _ _ lt_gb).trans kgb0
  replace kgb1 := ((bcell b).1 _ _ lt_gb).trans kgb1
  replace lt_ga := Nat.lt_of_lt_of_le lt_ga b.size
  replace lt_gb := Nat.lt_of_lt_of_le lt_gb b.size
  replace HA := Bx.mk (HA.out.below b)
  replace HBb := Bx.mk (HBb.out.below b)
  replace HR := Bx.mk (HR.out.below b)
  replace HB := Bx.mk (HB.out.below b)
  replace bw := bw.trans (b.mono bw.size)
  clear b
  go_upto_region 9 with (fail)
  rw [← hW, ← hg]
  clear hW hg
  go_wp2_with fail
  refine (makeOf_any _ _ _ 70 n _ (by omega) hn1 (by omega) (by exact HB.out)).mono ?_
  rintro e w11 ⟨s, hsok, As, cs, rfl, io, b⟩
  replace kga0 := ((bcell b).1 _ _ lt_ga).trans kga0
  replace kga1 := ((bcell b).1 _ _ lt_ga).trans kga1
  replace kgb0 := ((bcell b).1 _ _ lt_gb).trans kgb0
  replace kgb1 := ((bcell b).1 _ _ lt_gb).trans kgb1
  replace kgr0 := ((bcell b).1 _ _ lt_gr).trans kgr0
  replace kgr1 := ((bcell b).1 _ _ lt_gr).trans kgr1
  replace lt_ga := Nat.lt_of_lt_of_le lt_ga b.size
  replace lt_gb := Nat.lt_of_lt_of_le lt_gb b.size
  replace lt_gr := Nat.lt_of_lt_of_le lt_gr b.size
  replace HA := Bx.mk (HA.out.below b)
  replace HBb := Bx.mk (HBb.out.below b)
  replace HR := Bx.mk (HR.out.below b)
  replace HB := Bx.mk (HB.out.below b)
  replace bw := bw.trans (b.mono bw.size)
  clear b
  have HSOK := Bx.mk hsok
  have hsl := (rhOk_len hsok).1
  clear hsok
  have HSr := Bx.mk io.reads
  clear io
  obtain ⟨w12, hW⟩ : ∃ w12, w12 = w11.alloc (.cells #[.int .i64 n, .slice As s.length cs] 25) := ⟨_, rfl⟩
  obtain ⟨gs, hg⟩ : ∃ gs, gs = w11.heap.size := ⟨_, rfl⟩
  have b : Below w11.heap.size w11 w12 := by rw [hW]; exact below_alloc _ _
  have kgs0 : w12.cell? ⟨gs, 0, none⟩ = some (.int .i64 n) := by rw [hW, hg]; simp [go_sem]
  have kgs1 : w12.cell? ⟨gs, 1, none⟩ = some (.slice As s.length cs) := by rw [hW, hg]; simp [go_sem]
  have lt_gs : gs < w12.heap.size := by rw [hW, hg]; simp
  replace kga0 := ((bcell b).1 _ _ lt_ga).trans kga0
  replace kga1 := ((bcell b).1 _ _ lt_ga).trans kga1
  replace kgb0 := ((bcell b).1 _ _ lt_gb).trans kgb0
  replace kgb1 := ((bcell b).1 _ _ lt_gb).trans kgb1
  replace kgr0 := ((bcell b).1 _ _ lt_gr).trans kgr0
  replace kgr1 := ((bcell b).1 _ _ lt_gr).trans kgr1
  replace lt_ga := Nat.lt_of_lt_of_le lt_ga b.size
  replace lt_gb := Nat.lt_of_lt_of_le lt_gb b.size
  replace lt_gr := Nat.lt_of_lt_of_le lt_gr b.size
  replace HA := Bx.mk (HA.out.below b)
  replace HBb := Bx.mk (HBb.out.below b)
  replace HR := Bx.mk (HR.out.below b)
  replace HSr := Bx.mk (HSr.out.below b)
  replace HB := Bx.mk (HB.out.below b)
  replace bw := bw.trans (b.mono bw.size)
  clear b
  go_upto_region 10 with (fail)
  rw [← hW, ← hg]
  clear hW hg
  obtain ⟨LS, hLS⟩ : ∃ LS, LS = leftI n r n s := ⟨_, rfl⟩
  obtain ⟨M, hM⟩ : ∃ M : Nat, M = r.length * s.length := ⟨_, rfl⟩
  have hMb : M ≤ 576 := by rw [hM]; have := Nat.mul_le_mul hrl hsl; omega
  have hMi : (r.length : Int) * (s.length : Int) = (M : Int) := by rw [hM]; simp
  obtain ⟨TB, hTB⟩ : ∃ TB, TB = tilesB n r s := ⟨_, rfl⟩
  have HTB : Bx (TB = (decide (LS.length = 0) && decide (M = n))) := ⟨by rw [hTB, hLS, hM]; exact tile_left hn12 HROK.out HSOK.out⟩
  have HOL : Bx (∀ A B c d W, IR W A r → IR W B s → Calls Try.prog 8 #[.agg #[.int .i64 n, .slice A r.length c], .agg #[.int .i64 n, .slice B s.length d]] W (GivesInts W LS)) := ⟨fun A B c d W h1 h2 => by rw [hLS]; exact implLeft_any n n A B c d r s W hn64.out hn64.out h1 h2⟩
  have HIT : Bx (∀ A B c d W, IR W A r → IR W B s → Calls Try.prog 7 #[.agg #[.int .i64 n, .slice A r.length c], .agg #[.int .i64 n, .slice B s.length d]] W fun e w' => e = .returned (.bool TB) ∧ Below W.heap.size W w') := ⟨fun A B c d W h1 h2 => by
    have := implIsTiling_any n n A B c d r s W hn64.out hn64.out h1 h2
    rw [btw_tiles HROK.out HSOK.out, ← hTB] at this
    exact this⟩
  clear hLS hM hTB
  go_wp2_with fail
  refine (HOL.out _ _ _ _ _ (by exact HR.out) (by exact HSr.out)).mono ?_
  rintro e w13 ⟨AL, cL, rfl, io, b⟩
  replace kga0 := ((bcell b).1 _ _ lt_ga).trans kga0
  replace kga1 := ((bcell b).1 _ _ lt_ga).trans kga1
  replace kgb0 := ((bcell b).1 _ _ lt_gb).trans kgb0
  replace kgb1 := ((bcell b).1 _ _ lt_gb).trans kgb1
  replace kgr0 := ((bcell b).1 _ _ lt_gr).trans kgr0
  replace kgr1 := ((bcell b).1 _ _ lt_gr).trans kgr1
  replace kgs0 := ((bcell b).1 _ _ lt_gs).trans kgs0
  replace kgs1 := ((bcell b).1 _ _ lt_gs).trans kgs1
  replace lt_ga := Nat.lt_of_lt_of_le lt_ga b.size
  replace lt_gb := Nat.lt_of_lt_of_le lt_gb b.size
  replace lt_gr := Nat.lt_of_lt_of_le lt_gr b.size
  replace lt_gs := Nat.lt_of_lt_of_le lt_gs b.size
  replace HA := Bx.mk (HA.out.below b)
  replace HBb := Bx.mk (HBb.out.below b)
  replace HR := Bx.mk (HR.out.below b)
  replace HSr := Bx.mk (HSr.out.below b)
  replace HB := Bx.mk (HB.out.below b)
  replace bw := bw.trans (b.mono bw.size)
  clear b
  clear io
  go_upto_region 11 with (fail)
  clear HOL
  go_cut [114] (fun v wx => v = .bool false ∧ Bx (Below w13.heap.size w13 wx))
  case first =>
    go_wp2_with fail
    refine (HIT.out _ _ _ _ _ (by exact HR.out) (by exact HSr.out)).mono ?_
    rintro e wq ⟨rfl, b⟩
    replace kgr0 := ((bcell b).1 _ _ lt_gr).trans kgr0
    replace kgr1 := ((bcell b).1 _ _ lt_gr).trans kgr1
    replace kgs0 := ((bcell b).1 _ _ lt_gs).trans kgs0
    replace kgs1 := ((bcell b).1 _ _ lt_gs).trans kgs1
    have HZ := Bx.mk b
    clear b
    have HTB2 := HTB.out
    clear HTB
    by_cases hL0 : LS.length = 0
    · have hLb : (((LS.length : Nat) : Int) == 0) = true := by rw [beq_iff_eq]; omega
      by_cases hMn : M = n
      · have hTBe : TB = true := by rw [HTB2, hL0, hMn]; simp
        have hMb2 : (((M : Nat) : Int) == (n : Int)) = true := by rw [beq_iff_eq]; omega
        clear HTB2 hL0 hMn
        subst hTBe
        go_wp2_with fail
        go_meet
        exact ⟨rfl, HZ⟩
      · have hTBe : TB = false := by rw [HTB2, decide_eq_false hMn, Bool.and_false]
        have hMb2 : (((M : Nat) : Int) == (n : Int)) = false := by rw [beq_eq_false_iff_ne]; omega
        clear HTB2 hL0 hMn
        subst hTBe
        go_wp2_with fail
        go_meet
        exact ⟨rfl, HZ⟩
    · have hTBe : TB = false := by rw [HTB2, decide_eq_false hL0, Bool.false_and]
      have hLb : (((LS.length : Nat) : Int) == 0) = false := by rw [beq_eq_false_iff_ne]; omega
      clear HTB2 hL0
      subst hTBe
      go_wp2_with fail
      go_meet
      exact ⟨rfl, HZ⟩
  case rest =>
    obtain ⟨rfl, HBW⟩ := hcut
    rename World => wz
    have b := HBW.out
    clear HBW HTB hMi hMb HIT
    replace kga0 := ((bcell b).1 _ _ lt_ga).trans kga0
    replace kga1 := ((bcell b).1 _ _ lt_ga).trans kga1
    replace kgb0 := ((bcell b).1 _ _ lt_gb).trans kgb0
    replace kgb1 := ((bcell b).1 _ _ lt_gb).trans kgb1
    replace kgr0 := ((bcell b).1 _ _ lt_gr).trans kgr0
    replace kgr1 := ((bcell b).1 _ _ lt_gr).trans kgr1
    replace kgs0 := ((bcell b).1 _ _ lt_gs).trans kgs0
    replace kgs1 := ((bcell b).1 _ _ lt_gs).trans kgs1
    replace lt_ga := Nat.lt_of_lt_of_le lt_ga b.size
    replace lt_gb := Nat.lt_of_lt_of_le lt_gb b.size
    replace lt_gr := Nat.lt_of_lt_of_le lt_gr b.size
    replace lt_gs := Nat.lt_of_lt_of_le lt_gs b.size
    replace HA := Bx.mk (HA.out.below b)
    replace HBb := Bx.mk (HBb.out.below b)
    replace HR := Bx.mk (HR.out.below b)
    replace HSr := Bx.mk (HSr.out.below b)
    replace HB := Bx.mk (HB.out.below b)
    replace bw := bw.trans (b.mono bw.size)
    clear b
    clear HR HSr kgr0 kgr1 kgs0 kgs1 lt_gr lt_gs
    obtain ⟨PV, hPV⟩ : ∃ PV, PV = ordI n a := ⟨_, rfl⟩
    obtain ⟨QV, hQV⟩ : ∃ QV, QV = ordI n b' := ⟨_, rfl⟩
    obtain ⟨D, hD⟩ : ∃ D, D = divs (n : Int) := ⟨_, rfl⟩
    have HVP : Bx (∀ A c W, IR W A a → Calls Try.prog 10 #[.agg #[.int .i64 n, .slice A a.length c]] W (GivesInts W PV)) := ⟨fun A c W h => by rw [hPV]; exact implOrd_any n A c a W hn64.out h⟩
    have HVQ : Bx (∀ A c W, IR W A b' → Calls Try.prog 10 #[.agg #[.int .i64 n, .slice A b'.length c]] W (GivesInts W QV)) := ⟨fun A c W h => by rw [hQV]; exact implOrd_any n A c b' W hn64.out h⟩
    have HDI : Bx (∀ W, Calls Try.prog 11 #[.int .i64 n] W (GivesInts W D)) := ⟨fun W => by rw [hD]; exact implDivisorsOf_any n W⟩
    have HDC : Bx (∀ x ∈ D, (x = 1 ∧ memB PV 1 = false) ∨ ∃ v1 v2 : Bool, 1 < x ∧ x ≤ 24 ∧ memB PV x = v1 ∧ memB QV x = v2 ∧ vanI n a x = v1 ∧ (v1 || v2) = true) := ⟨fun x hx => by
      rw [hD] at hx
      rcases divs_case hn1 (by omega) hx with rfl | ⟨d, rfl, h2, h3, h4⟩
      · exact .inl ⟨rfl, by rw [hPV]; exact ord_no1 HAOK.out⟩
      · refine .inr ⟨vanI n a d, vanI n b' d, by omega, by omega, ?_, ?_, rfl, ?_⟩
        · rw [hPV]; exact memB_ord HAOK.out hx (by omega)
        · rw [hQV]; exact memB_ord HBOK.out hx (by omega)
        · rw [Bool.or_eq_true]
          exact (tile_iff hn12 HAOK.out HBOK.out (tiles_mul HTI.out)).1.1 HTI.out d h4⟩
    have hDl : D.length ≤ 1000 := by rw [hD]; exact divs_len _
    have HPVE := Bx.mk hPV
    clear hPV hQV hD
    go_upto_region 13 with (fail)
    go_wp2_with fail
    refine (HVP.out _ _ _ (by exact HA.out)).mono ?_
    rintro e w14 ⟨AP, cP, rfl, io, b⟩
    replace kga0 := ((bcell b).1 _ _ lt_ga).trans kga0
    replace kga1 := ((bcell b).1 _ _ lt_ga).trans kga1
    replace kgb0 := ((bcell b).1 _ _ lt_gb).trans kgb0
    replace kgb1 := ((bcell b).1 _ _ lt_gb).trans kgb1
    replace lt_ga := Nat.lt_of_lt_of_le lt_ga b.size
    replace lt_gb := Nat.lt_of_lt_of_le lt_gb b.size
    replace HA := Bx.mk (HA.out.below b)
    replace HBb := Bx.mk (HBb.out.below b)
    replace HB := Bx.mk (HB.out.below b)
    replace bw := bw.trans (b.mono bw.size)
    clear b
    have HPr := Bx.mk io.reads
    clear io
    go_wp2_with fail
    refine (HVQ.out _ _ _ (by exact HBb.out)).mono ?_
    rintro e w15 ⟨AQ, cQ, rfl, io, b⟩
    replace kga0 := ((bcell b).1 _ _ lt_ga).trans kga0
    replace kga1 := ((bcell b).1 _ _ lt_ga).trans kga1
    replace kgb0 := ((bcell b).1 _ _ lt_gb).trans kgb0
    replace kgb1 := ((bcell b).1 _ _ lt_gb).trans kgb1
    replace lt_ga := Nat.lt_of_lt_of_le lt_ga b.size
    replace lt_gb := Nat.lt_of_lt_of_le lt_gb b.size
    replace HA := Bx.mk (HA.out.below b)
    replace HBb := Bx.mk (HBb.out.below b)
    replace HPr := Bx.mk (HPr.out.below b)
    replace HB := Bx.mk (HB.out.below b)
    replace bw := bw.trans (b.mono bw.size)
    clear b
    have HQr := Bx.mk io.reads
    clear io
    go_wp2_with fail
    refine (HDI.out _).mono ?_
    rintro e w16 ⟨AD, cD, rfl, io, b⟩
    replace kga0 := ((bcell b).1 _ _ lt_ga).trans kga0
    replace kga1 := ((bcell b).1 _ _ lt_ga).trans kga1
    replace kgb0 := ((bcell b).1 _ _ lt_gb).trans kgb0
    replace kgb1 := ((bcell b).1 _ _ lt_gb).trans kgb1
    replace lt_ga := Nat.lt_of_lt_of_le lt_ga b.size
    replace lt_gb := Nat.lt_of_lt_of_le lt_gb b.size
    replace HA := Bx.mk (HA.out.below b)
    replace HBb := Bx.mk (HBb.out.below b)
    replace HPr := Bx.mk (HPr.out.below b)
    replace HQr := Bx.mk (HQr.out.below b)
    replace HB := Bx.mk (HB.out.below b)
    replace bw := bw.trans (b.mono bw.size)
    clear b
    have HDr := Bx.mk io.reads
    clear io
    go_wp2_with fail
    clear HVP HVQ HDI
    go_loopw [122] (fun iv wr => ∃ k : Nat, k ≤ D.length ∧ iv = .int .i64 k ∧ Bx (Below w16.heap.size w16 wr)) (fun iv _ => D.length - (intOf iv).toNat)
    case atStart => exact ⟨0, by omega, rfl, ⟨Below.refl _ _⟩⟩
    case round =>
      obtain ⟨k, hk, rfl, HRr⟩ := hrel
      by_cases hlt : k < D.length
      · have hli : (k : Int) < D.length := by omega
        obtain ⟨bD, oD, d, rfl, lt_bD, kD, H1⟩ := (HDr.out.below HRr.out).one (k := k) hlt
        have HDD := HDC.out d (List.mem_of_getElem? H1.out)
        have HP2 := Bx.mk (HPr.out.below HRr.out)
        have HQ2 := Bx.mk (HQr.out.below HRr.out)
        have HA2 := Bx.mk (HA.out.below HRr.out)
        have q0 := ((bcell HRr.out).1 _ _ lt_ga).trans kga0
        have q1 := ((bcell HRr.out).1 _ _ lt_ga).trans kga1
        have lt_gA := Nat.lt_of_lt_of_le lt_ga HRr.out.size
        have bw := HRr.out
        clear H1 HDC
        rcases HDD with ⟨rfl, hp1⟩ | ⟨v1, v2, hx1, hx2, hv1, hv2, hva, hvv⟩
        · have HH1 : Bx (∀ A c W, IR W A PV → Calls Try.prog 12 #[.slice A PV.length c, .int .i64 1] W fun e w' => e = .returned (.bool false) ∧ W = w') := ⟨fun A c W h => by rw [← hp1]; exact lawHas_any A c PV 1 W h⟩
          clear hp1 HRr
          go_wp2_with fail
          refine (HH1.out _ _ _ (by exact HP2.out)).mono ?_
          rintro e w' ⟨rfl, rfl⟩
          have HRF := Bx.mk bw
          clear bw
          go_wp2_with fail
          go_roundw
          case rel => exact ⟨k + 1, by omega, by go_num, HRF⟩
          case measure => simp [intOf]; omega
        · have HH1 : Bx (∀ A c W, IR W A PV → Calls Try.prog 12 #[.slice A PV.length c, .int .i64 d] W fun e w' => e = .returned (.bool v1) ∧ W = w') := ⟨fun A c W h => by rw [← hv1]; exact lawHas_any A c PV d W h⟩
          have HH2 : Bx (∀ A c W, IR W A QV → Calls Try.prog 12 #[.slice A QV.length c, .int .i64 d] W fun e w' => e = .returned (.bool v2) ∧ W = w') := ⟨fun A c W h => by rw [← hv2]; exact lawHas_any A c QV d W h⟩
          have HVA : Bx (∀ A c W, IR W A a → Calls Try.prog 13 #[.agg #[.int .i64 n, .slice A a.length c], .int .i64 d] W fun e w' => e = .returned (.bool v1) ∧ Below W.heap.size W w') := ⟨fun A c W h => by rw [← hva]; exact implVan_any n A c a d W hn64.out h⟩
          have hdg : d > 1 := hx1
          clear hv1 hv2 hva HRr
          cases v1 with
          | true =>
            clear hvv
            go_wp2_with fail
            refine (HH1.out _ _ _ (by exact HP2.out)).mono ?_
            rintro e w' ⟨rfl, rfl⟩
            go_wp2_with fail
            refine (HH1.out _ _ _ (by exact HP2.out)).mono ?_
            rintro e w' ⟨rfl, rfl⟩
            go_wp2_with fail
            refine (HVA.out _ _ _ (by exact HA2.out)).mono ?_
            rintro e w17 ⟨rfl, b⟩
            replace q0 := ((bcell b).1 _ _ lt_gA).trans q0
            replace q1 := ((bcell b).1 _ _ lt_gA).trans q1
            replace lt_gA := Nat.lt_of_lt_of_le lt_gA b.size
            replace HP2 := Bx.mk (HP2.out.below b)
            replace HQ2 := Bx.mk (HQ2.out.below b)
            replace HA2 := Bx.mk (HA2.out.below b)
            replace bw := bw.trans (b.mono bw.size)
            clear b
            have HRF := Bx.mk bw
            clear bw
            go_wp2_with fail
            go_roundw
            case rel => exact ⟨k + 1, by omega, by go_num, HRF⟩
            case measure => simp [intOf]; omega
          | false =>
            obtain rfl : v2 = true := by simpa using hvv
            clear hvv
            go_wp2_with fail
            refine (HH1.out _ _ _ (by exact HP2.out)).mono ?_
            rintro e w' ⟨rfl, rfl⟩
            go_wp2_with fail
            refine (HH2.out _ _ _ (by exact HQ2.out)).mono ?_
            rintro e w' ⟨rfl, rfl⟩
            go_wp2_with fail
            refine (HH1.out _ _ _ (by exact HP2.out)).mono ?_
            rintro e w' ⟨rfl, rfl⟩
            go_wp2_with fail
            refine (HVA.out _ _ _ (by exact HA2.out)).mono ?_
            rintro e w18 ⟨rfl, b⟩
            replace q0 := ((bcell b).1 _ _ lt_gA).trans q0
            replace q1 := ((bcell b).1 _ _ lt_gA).trans q1
            replace lt_gA := Nat.lt_of_lt_of_le lt_gA b.size
            replace HP2 := Bx.mk (HP2.out.below b)
            replace HQ2 := Bx.mk (HQ2.out.below b)
            replace HA2 := Bx.mk (HA2.out.below b)
            replace bw := bw.trans (b.mono bw.size)
            clear b
            have HRF := Bx.mk bw
            clear bw
            go_wp2_with fail
            go_roundw
            case rel => exact ⟨k + 1, by omega, by go_num, HRF⟩
            case measure => simp [intOf]; omega
      have hli : ¬ (k : Int) < D.length := by omega
      have b := HRr.out
      clear HRr HDC
      replace kga0 := ((bcell b).1 _ _ lt_ga).trans kga0
      replace kga1 := ((bcell b).1 _ _ lt_ga).trans kga1
      replace kgb0 := ((bcell b).1 _ _ lt_gb).trans kgb0
      replace kgb1 := ((bcell b).1 _ _ lt_gb).trans kgb1
      replace lt_ga := Nat.lt_of_lt_of_le lt_ga b.size
      replace lt_gb := Nat.lt_of_lt_of_le lt_gb b.size
      replace HA := Bx.mk (HA.out.below b)
      replace HBb := Bx.mk (HBb.out.below b)
      replace HPr := Bx.mk (HPr.out.below b)
      replace HQr := Bx.mk (HQr.out.below b)
      replace HDr := Bx.mk (HDr.out.below b)
      replace HB := Bx.mk (HB.out.below b)
      replace bw := bw.trans (b.mono bw.size)
      clear b
      clear HQr HDr
      go_wp2_with fail
      clear hli hlt hk
      obtain ⟨PP, hPP⟩ : ∃ PP, PP = ppI n a := ⟨_, rfl⟩
      have HPP : Bx (∀ A c W, IR W A a → Calls Try.prog 14 #[.agg #[.int .i64 n, .slice A a.length c]] W (GivesInts W PP)) := ⟨fun A c W h => by rw [hPP]; exact implPp_any n A c a W hn64.out h⟩
      have HPC : Bx (∀ x ∈ PP, 2 ≤ primeI x ∧ primeI x ≤ 1000 ∧ memB PV x = true) := ⟨fun x hx => by rw [hPP] at hx; rw [HPVE.out]; exact pp_two HAOK.out hx⟩
      have HMF : Bx (prodTo PP PP.length = (a.length : Int)) := ⟨by
        have := HTQ.out.mf
        unfold mfI at this
        rw [HAOK.out, Bool.true_and, beq_iff_eq, ← hPP] at this
        exact this⟩
      have hPl : PP.length ≤ 24 := by rw [hPP]; exact ppI_len _ _
      clear hPP
      refine (HPP.out _ _ _ (by exact HA.out)).mono ?_
      rintro e w19 ⟨AE, cE, rfl, io, b⟩
      replace kga0 := ((bcell b).1 _ _ lt_ga).trans kga0
      replace kga1 := ((bcell b).1 _ _ lt_ga).trans kga1
      replace kgb0 := ((bcell b).1 _ _ lt_gb).trans kgb0
      replace kgb1 := ((bcell b).1 _ _ lt_gb).trans kgb1
      replace lt_ga := Nat.lt_of_lt_of_le lt_ga b.size
      replace lt_gb := Nat.lt_of_lt_of_le lt_gb b.size
      replace HA := Bx.mk (HA.out.below b)
      replace HBb := Bx.mk (HBb.out.below b)
      replace HPr := Bx.mk (HPr.out.below b)
      replace HB := Bx.mk (HB.out.below b)
      replace bw := bw.trans (b.mono bw.size)
      clear b
      have HEr := Bx.mk io.reads
      clear io
      go_wp2_with fail
      go_loopw [16, 157] (fun pv iv wr2 => ∃ k : Nat, k ≤ PP.length ∧ iv = .int .i64 k ∧ pv = .int .i64 (prodTo PP k) ∧ Bx (Below w19.heap.size w19 wr2)) (fun _ iv _ => PP.length - (intOf iv).toNat)
      case atStart => exact ⟨0, by omega, rfl, rfl, ⟨Below.refl _ _⟩⟩
      case round =>
        obtain ⟨k, hk, rfl, rfl, HRr⟩ := hrel
        by_cases hlt : k < PP.length
        · have hli : (k : Int) < PP.length := by omega
          obtain ⟨bE, oE, d, rfl, lt_bE, kE, H1⟩ := (HEr.out.below HRr.out).one (k := k) hlt
          have HDD := HPC.out d (List.mem_of_getElem? H1.out)
          have HST := Bx.mk (prodTo_step H1.out)
          obtain ⟨M, hM⟩ : ∃ M, M = prodTo PP k := ⟨_, rfl⟩
          rw [← hM] at HST ⊢
          obtain ⟨y, hy⟩ : ∃ y, y = primeI d := ⟨_, rfl⟩
          rw [← hy] at HST HDD
          obtain ⟨z, hzz⟩ : ∃ z, IntKind.i64.wrap (M * y) = z := ⟨_, rfl⟩
          rw [hzz] at HST
          have HPO : Bx (∀ W, Calls Try.prog 15 #[.int .i64 d] W fun e w' => e = .returned (.int .i64 y) ∧ Below W.heap.size W w') := ⟨fun W => by rw [hy]; exact implPrimeOf_any d W⟩
          obtain ⟨h1, h2, h3⟩ := HDD
          have hy2 : ¬ y < 2 := by omega
          have HH1 : Bx (∀ A c W, IR W A PV → Calls Try.prog 12 #[.slice A PV.length c, .int .i64 d] W fun e w' => e = .returned (.bool true) ∧ W = w') := ⟨fun A c W h => by rw [← h3]; exact lawHas_any A c PV d W h⟩
          have HP2 := Bx.mk (HPr.out.below HRr.out)
          have bw := HRr.out
          clear H1 HPC hM hy h1 h2 h3 HRr
          go_wp2_with fail
          refine (HPO.out _).mono ?_
          rintro e w20 ⟨rfl, b⟩
          replace HP2 := Bx.mk (HP2.out.below b)
          replace bw := bw.trans (b.mono bw.size)
          clear b
          go_wp2_with fail
          refine (HH1.out _ _ _ (by exact HP2.out)).mono ?_
          rintro e w' ⟨rfl, rfl⟩
          go_wp2_with fail
          refine (HPO.out _).mono ?_
          rintro e w21 ⟨rfl, b⟩
          replace HP2 := Bx.mk (HP2.out.below b)
          replace bw := bw.trans (b.mono bw.size)
          clear b
          have HRF := Bx.mk bw
          clear bw
          go_wp2_with fail
          go_roundw
          case rel => exact ⟨k + 1, by omega, by go_num, by rw [HST.out], HRF⟩
          case measure => simp [intOf]; omega
        have hkl : k = PP.length := by omega
        have hli : ¬ (k : Int) < PP.length := by omega
        have hpe : prodTo PP k = (a.length : Int) := by rw [hkl]; exact HMF.out
        rw [hpe]
        have haa : ((a.length : Int) == (a.length : Int)) = true := by simp
        have HMFc : Bx (∀ A c W, IR W A a → Calls Try.prog 16 #[.agg #[.int .i64 n, .slice A a.length c]] W fun e w' => e = .returned (.bool true) ∧ Below W.heap.size W w') := ⟨fun A c W h => by rw [← HTQ.out.mf]; exact implMf_any n A c a W hn64.out h⟩
        have HMSc : Bx (∀ A c W, IR W A a → Calls Try.prog 17 #[.agg #[.int .i64 n, .slice A a.length c]] W fun e w' => e = .returned (.bool true) ∧ Below W.heap.size W w') := ⟨fun A c W h => by rw [← HTQ.out.ms]; exact implMs_any n A c a W hn64.out h⟩
        have HCM : Bx (∀ W, Calls Try.prog 18 #[.int .i64 4, .int .i64 2] W fun e w' => e = .returned (.int .i64 3) ∧ Below W.heap.size W w') := ⟨fun W => by have := implCm_any 4 2 W; rw [cm_42] at this; exact this⟩
        have HP12 : Bx (∀ W, Calls Try.prog 15 #[.int .i64 12] W fun e w' => e = .returned (.int .i64 0) ∧ Below W.heap.size W w') := ⟨fun W => by have := implPrimeOf_any 12 W; rw [prime12] at this; exact this⟩
        have b := HRr.out
        clear HRr HPC hpe hkl hlt hk HMF
        replace kga0 := ((bcell b).1 _ _ lt_ga).trans kga0
        replace kga1 := ((bcell b).1 _ _ lt_ga).trans kga1
        replace kgb0 := ((bcell b).1 _ _ lt_gb).trans kgb0
        replace kgb1 := ((bcell b).1 _ _ lt_gb).trans kgb1
        replace lt_ga := Nat.lt_of_lt_of_le lt_ga b.size
        replace lt_gb := Nat.lt_of_lt_of_le lt_gb b.size
        replace HA := Bx.mk (HA.out.below b)
        replace HBb := Bx.mk (HBb.out.below b)
        replace HPr := Bx.mk (HPr.out.below b)
        replace HEr := Bx.mk (HEr.out.below b)
        replace HB := Bx.mk (HB.out.below b)
        replace bw := bw.trans (b.mono bw.size)
        clear b
        go_wp2_with fail
        refine (HMFc.out _ _ _ (by exact HA.out)).mono ?_
        rintro e w22 ⟨rfl, b⟩
        replace kga0 := ((bcell b).1 _ _ lt_ga).trans kga0
        replace kga1 := ((bcell b).1 _ _ lt_ga).trans kga1
        replace kgb0 := ((bcell b).1 _ _ lt_gb).trans kgb0
        replace kgb1 := ((bcell b).1 _ _ lt_gb).trans kgb1
        replace lt_ga := Nat.lt_of_lt_of_le lt_ga b.size
        replace lt_gb := Nat.lt_of_lt_of_le lt_gb b.size
        replace HA := Bx.mk (HA.out.below b)
        replace HBb := Bx.mk (HBb.out.below b)
        replace HPr := Bx.mk (HPr.out.below b)
        replace HEr := Bx.mk (HEr.out.below b)
        replace HB := Bx.mk (HB.out.below b)
        replace bw := bw.trans (b.mono bw.size)
        clear b
        go_wp2_with fail
        refine (HMSc.out _ _ _ (by exact HA.out)).mono ?_
        rintro e w23 ⟨rfl, b⟩
        replace kga0 := ((bcell b).1 _ _ lt_ga).trans kga0
        replace kga1 := ((bcell b).1 _ _ lt_ga).trans kga1
        replace kgb0 := ((bcell b).1 _ _ lt_gb).trans kgb0
        replace kgb1 := ((bcell b).1 _ _ lt_gb).trans kgb1
        replace lt_ga := Nat.lt_of_lt_of_le lt_ga b.size
        replace lt_gb := Nat.lt_of_lt_of_le lt_gb b.size
        replace HA := Bx.mk (HA.out.below b)
        replace HBb := Bx.mk (HBb.out.below b)
        replace HPr := Bx.mk (HPr.out.below b)
        replace HEr := Bx.mk (HEr.out.below b)
        replace HB := Bx.mk (HB.out.below b)
        replace bw := bw.trans (b.mono bw.size)
        clear b
        go_wp2_with fail
        refine (HCM.out _).mono ?_
        rintro e w24 ⟨rfl, b⟩
        replace kga0 := ((bcell b).1 _ _ lt_ga).trans kga0
        replace kga1 := ((bcell b).1 _ _ lt_ga).trans kga1
        replace kgb0 := ((bcell b).1 _ _ lt_gb).trans kgb0
        replace kgb1 := ((bcell b).1 _ _ lt_gb).trans kgb1
        replace lt_ga := Nat.lt_of_lt_of_le lt_ga b.size
        replace lt_gb := Nat.lt_of_lt_of_le lt_gb b.size
        replace HA := Bx.mk (HA.out.below b)
        replace HBb := Bx.mk (HBb.out.below b)
        replace HPr := Bx.mk (HPr.out.below b)
        replace HEr := Bx.mk (HEr.out.below b)
        replace HB := Bx.mk (HB.out.below b)
        replace bw := bw.trans (b.mono bw.size)
        clear b
        go_wp2_with fail
        refine (HP12.out _).mono ?_
        rintro e w25 ⟨rfl, b⟩
        replace kga0 := ((bcell b).1 _ _ lt_ga).trans kga0
        replace kga1 := ((bcell b).1 _ _ lt_ga).trans kga1
        replace kgb0 := ((bcell b).1 _ _ lt_gb).trans kgb0
        replace kgb1 := ((bcell b).1 _ _ lt_gb).trans kgb1
        replace lt_ga := Nat.lt_of_lt_of_le lt_ga b.size
        replace lt_gb := Nat.lt_of_lt_of_le lt_gb b.size
        replace HA := Bx.mk (HA.out.below b)
        replace HBb := Bx.mk (HBb.out.below b)
        replace HPr := Bx.mk (HPr.out.below b)
        replace HEr := Bx.mk (HEr.out.below b)
        replace HB := Bx.mk (HB.out.below b)
        replace bw := bw.trans (b.mono bw.size)
        clear b
        go_wp2_with fail
        go_ret
        exact ⟨rfl, bw⟩
end Go.Proofs.Ytgfdmjhdfddopaa
