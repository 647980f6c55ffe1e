/- The law on SumRhythm, walked. -/
import Derived.Test.YtiiiejkolodjpaaSumRh
import Derived.Test.YtiiiejkolodjpaaLawRh
import Derived.Test.YtiiiejkolodjpaaFinRh
import Derived.Test.YtiiiejkolodjpaaObjs
import Derived.Test.YtiiiejkolodjpaaBxB
import Derived.Test.YtiiiejkolodjpaaLawCn
import Derived.Deep.RegionHeld3
import Derived.Deep.DeepCutAuto
namespace Go.Proofs.Ytiiiejkolodjpaa
open Go.RowKit

set_option maxHeartbeats 4000000 in
set_option maxRecDepth 20000 in
theorem walkFnExactSumRhythm (w : World) (s0 : Int) (hs0 : -9223372036854775808 ≤ s0 ∧ s0 ≤ 9223372036854775807) (A0 : Option Addr) (c0 : Nat) (xs0 : List Int) (ha0 : AR .i64 w A0 xs0) (_hf0 : Fits xs0) (s1 : Int) (hs1 : -9223372036854775808 ≤ s1 ∧ s1 ≤ 9223372036854775807) (A1 : Option Addr) (c1 : Nat) (xs1 : List Int) (ha1 : AR .i64 w A1 xs1) (_hf1 : Fits xs1) :
    Calls Try.prog 12 #[.agg #[.int .i64 s0, .slice A0 xs0.length c0], .agg #[.int .i64 s1, .slice A1 xs1.length c1]] w fun e w' => e = .returned (.bool true) ∧ Below w.heap.size w w' := by
  obtain ⟨W0, hW0⟩ : ∃ W0, W0 = ((w.alloc (.cells #[.int .i64 s0, .slice A0 xs0.length c0] 24)).alloc (.cells #[.int .i64 s1, .slice A1 xs1.length c1] 24)) := ⟨_, rfl⟩
  have bw : Below w.heap.size w W0 := by rw [hW0]; exact ((Below.refl _ _).alloc (by simp <;> omega) _).alloc (by simp <;> omega) _
  have zW0 : w.heap.size + 2 ≤ W0.heap.size := by rw [hW0]; simp
  have ka0_0 : W0.cell? ⟨w.heap.size, 0, none⟩ = some (.int .i64 s0) := by rw [hW0]; simp [go_sem]
  have ka0_1 : W0.cell? ⟨w.heap.size, 1, none⟩ = some (.slice A0 xs0.length c0) := by rw [hW0]; simp [go_sem]
  have ka1_0 : W0.cell? ⟨w.heap.size + 1, 0, none⟩ = some (.int .i64 s1) := by rw [hW0]; simp [go_sem]
  have ka1_1 : W0.cell? ⟨w.heap.size + 1, 1, none⟩ = some (.slice A1 xs1.length c1) := by rw [hW0]; simp [go_sem]
  have hml0 := ha0.1
  have hml1 := ha1.1
  by_cases h0 : (xs0.length : Int) ≤ (1048576 : Int)
  rotate_left
  · have HN : Bx ((1048576 : Int) < (xs0.length : Int)) := ⟨by omega⟩
    go_enter Try.func12, Try.ntmps12
    go_wp2_with fail
    rw [← hW0]
    clear hW0
    refine (szRhythm_no _ _ _ _ hml0 _ (by omega) HN.out _).mono ?_
    rintro e w1 ⟨rfl, b⟩
    replace bw := bw.trans (b.mono bw.size)
    go_wp2_with fail
    go_ret
    exact ⟨rfl, bw⟩
  by_cases h1 : (xs1.length : Int) ≤ (1048576 - (xs0.length : Int))
  rotate_left
  · have HN : Bx ((1048576 - (xs0.length : Int)) < (xs1.length : Int)) := ⟨by omega⟩
    go_enter Try.func12, Try.ntmps12
    go_wp2_with fail
    rw [← hW0]
    clear hW0
    refine (szRhythm_yes _ _ _ _ hml0 _ (by omega) h0 _).mono ?_
    rintro e w1 ⟨rfl, b⟩
    have zw1 := b.size
    replace bw := bw.trans (b.mono bw.size)
    replace ka0_0 := ((bcell b).1 _ _ (by omega)).trans ka0_0
    replace ka0_1 := ((bcell b).1 _ _ (by omega)).trans ka0_1
    replace ka1_0 := ((bcell b).1 _ _ (by omega)).trans ka1_0
    replace ka1_1 := ((bcell b).1 _ _ (by omega)).trans ka1_1
    clear b
    go_wp2_with fail
    refine (szRhythm_no _ _ _ _ hml1 _ (by omega) HN.out _).mono ?_
    rintro e w2 ⟨rfl, b⟩
    replace bw := bw.trans (b.mono bw.size)
    go_wp2_with fail
    go_ret
    exact ⟨rfl, bw⟩
  have HX0 := Bx.mk ((RB.of_ir (ha0.ir (by omega))).below bw (Nat.le_refl _))
  have HS0 := Bx.mk hs0
  clear ha0 hs0
  have HX1 := Bx.mk ((RB.of_ir (ha1.ir (by omega))).below bw (Nat.le_refl _))
  have HS1 := Bx.mk hs1
  clear ha1 hs1
  go_enter Try.func12, Try.ntmps12
  go_wp2_with fail
  rw [← hW0]
  clear hW0
  refine (szRhythm_yes _ _ _ _ hml0 _ (by omega) h0 _).mono ?_
  rintro e w1 ⟨rfl, b⟩
  have zw1 := b.size
  replace bw := bw.trans (b.mono bw.size)
  replace ka0_0 := ((bcell b).1 _ _ (by omega)).trans ka0_0
  replace ka0_1 := ((bcell b).1 _ _ (by omega)).trans ka0_1
  replace ka1_0 := ((bcell b).1 _ _ (by omega)).trans ka1_0
  replace ka1_1 := ((bcell b).1 _ _ (by omega)).trans ka1_1
  replace HX0 := Bx.mk (HX0.out.below b (by omega))
  replace HX1 := Bx.mk (HX1.out.below b (by omega))
  clear b
  go_wp2_with fail
  refine (szRhythm_yes _ _ _ _ hml1 _ (by omega) h1 _).mono ?_
  rintro e w2 ⟨rfl, b⟩
  have zw2 := b.size
  replace bw := bw.trans (b.mono bw.size)
  replace ka0_0 := ((bcell b).1 _ _ (by omega)).trans ka0_0
  replace ka0_1 := ((bcell b).1 _ _ (by omega)).trans ka0_1
  replace ka1_0 := ((bcell b).1 _ _ (by omega)).trans ka1_0
  replace ka1_1 := ((bcell b).1 _ _ (by omega)).trans ka1_1
  replace HX0 := Bx.mk (HX0.out.below b (by omega))
  replace HX1 := Bx.mk (HX1.out.below b (by omega))
  clear b
  go_upto_region 8 with (fail)
  go_cut [6, 7] (fun sb sv wx => ∃ (g : Nat) (A : Option Addr) (c : Nat), sb = .pointer (some ⟨g, 0, none⟩) ∧ sv = .bool (twoOk s0 xs0 s1 xs1) ∧ Bx (Blk wx g 27 #[.int .i64 (sumRs s0 xs0 s1 xs1), .slice A (sumRl s0 xs0 s1 xs1).length c] ∧ (w2.heap.size ≤ g ∧ g < wx.heap.size) ∧ OB w2.heap.size wx.heap.size wx A c (sumRl s0 xs0 s1 xs1) ∧ Below w2.heap.size w2 wx))
  case first =>
    have hB : Bx (Below w2.heap.size w2 w2.drew) := ⟨(Below.refl _ _).drew⟩
    have hB0 : Bx (Below w2.heap.size w2 w2) := ⟨Below.refl _ _⟩
    have ka0_0_d : w2.drew.cell? _ = _ := ka0_0
    have ka0_1_d : w2.drew.cell? _ = _ := ka0_1
    have ka1_0_d : w2.drew.cell? _ = _ := ka1_0
    have ka1_1_d : w2.drew.cell? _ = _ := ka1_1
    go_region_held3 (fun w' => w'.cell? ⟨w.heap.size, 0, none⟩ = some (.int .i64 s0) ∧ w'.cell? ⟨w.heap.size, 1, none⟩ = some (.slice A0 xs0.length c0) ∧ w'.cell? ⟨w.heap.size + 1, 0, none⟩ = some (.int .i64 s1) ∧ w'.cell? ⟨w.heap.size + 1, 1, none⟩ = some (.slice A1 xs1.length c1) ∧ Bx (Below w2.heap.size w2 w'))
      ((refine (fun (hK : Bx (Below w2.heap.size w2 _)) => ⟨((bcell hK.out).1 _ _ (by omega)).trans ka0_0, ((bcell hK.out).1 _ _ (by omega)).trans ka0_1, ((bcell hK.out).1 _ _ (by omega)).trans ka1_0, ((bcell hK.out).1 _ _ (by omega)).trans ka1_1, hK⟩) ?_; first | assumption | exact bx_alloc (by assumption) _ | exact bx_drew (bx_alloc (by assumption) _) | exact bx_set (bx_set (by first | assumption | exact bx_alloc (by assumption) _ | exact bx_drew (bx_alloc (by assumption) _)) (bx_size (by assumption)) _) (bx_size (by assumption)) _ | exact bx_set (by first | assumption | exact bx_alloc (by assumption) _ | exact bx_drew (bx_alloc (by assumption) _)) (bx_size (by assumption)) _))
      (first
        | (go_at_call_of 17 (c0); refine (toRhythm_any _ _ _ _ _ (by exact HX0.out.ir.below (Bx.out (by first | assumption | exact bx_alloc (by assumption) _ | exact bx_drew (bx_alloc (by assumption) _))))).mono ?_; rintro e w3 ⟨w3A, w3c, rfl, w3io, bw3⟩; have hBw3 : Bx (Below w2.heap.size w2 w3) := bx_to (by first | assumption | exact bx_alloc (by assumption) _ | exact bx_drew (bx_alloc (by assumption) _)) bw3; obtain ⟨hclw3, hfrw3⟩ := bcell bw3; have hzw3 := bw3.size; (try simp at hzw3); have ltaw3 : w.heap.size < w3.heap.size := (by have := bx_size hBw3; omega); have ltbw3 : w.heap.size + 1 < w3.heap.size := (by have := bx_size hBw3; omega); (try have ltw2w3 : w2.heap.size < w3.heap.size := (by omega)); skip)
        | (go_at_call_of 17 (c1); refine (toRhythm_any _ _ _ _ _ (by exact HX1.out.ir.below (Bx.out (by first | assumption | exact bx_alloc (by assumption) _ | exact bx_drew (bx_alloc (by assumption) _))))).mono ?_; rintro e w4 ⟨w4A, w4c, rfl, w4io, bw4⟩; have hBw4 : Bx (Below w2.heap.size w2 w4) := bx_to (by first | assumption | exact bx_alloc (by assumption) _ | exact bx_drew (bx_alloc (by assumption) _)) bw4; obtain ⟨hclw4, hfrw4⟩ := bcell bw4; have hzw4 := bw4.size; (try simp at hzw4); have ltaw4 : w.heap.size < w4.heap.size := (by have := bx_size hBw4; omega); have ltbw4 : w.heap.size + 1 < w4.heap.size := (by have := bx_size hBw4; omega); (try have ltw2w4 : w2.heap.size < w4.heap.size := (by omega)); (try have ltw3w4 : w3.heap.size < w4.heap.size := (by omega)); skip)
        | (go_at_call 44; refine (specSumRh_any _ _ _ _ _ _ _ _ _ HS0.out HS1.out (by first | exact (w3io.reads).below bw4 | exact ((w3io.reads).alloc _).below bw4 | exact ((w3io.reads).below bw4).alloc _) (by first | exact w4io.reads | exact (w4io.reads).alloc _)).mono ?_; rintro e w5 ⟨w5A, w5c, rfl, w5io, bw5⟩; have hBw5 : Bx (Below w2.heap.size w2 w5) := bx_to (by first | assumption | exact bx_alloc (by assumption) _ | exact bx_drew (bx_alloc (by assumption) _)) bw5; obtain ⟨hclw5, hfrw5⟩ := bcell bw5; have hzw5 := bw5.size; (try simp at hzw5); have ltaw5 : w.heap.size < w5.heap.size := (by have := bx_size hBw5; omega); have ltbw5 : w.heap.size + 1 < w5.heap.size := (by have := bx_size hBw5; omega); (try have ltw2w5 : w2.heap.size < w5.heap.size := (by omega)); (try have ltw3w5 : w3.heap.size < w5.heap.size := (by omega)); (try have ltw4w5 : w4.heap.size < w5.heap.size := (by omega)); skip))
    all_goals (go_wp2_with fail; go_meet)
    all_goals refine ⟨_, w5A, w5c, rfl, rfl, ⟨⟨?_, ⟨?_, ?_⟩, ?_, ?_⟩⟩⟩
    all_goals first
      | exact Blk.new _ _ _
      | exact (((Blk.new w4 _ _).below bw5 (by first | omega | (simp; done) | (simp; omega))).set 0 _).set 1 _
      | exact ((((Blk.new w3 _ _).below bw4 (by first | omega | (simp; done) | (simp; omega))).below bw5 (by first | omega | (simp; done) | (simp; omega))).set 0 _).set 1 _
      | exact (((((Blk.new w2 _ _).below bw3 (by first | omega | (simp; done) | (simp; omega))).below bw4 (by first | omega | (simp; done) | (simp; omega))).below bw5 (by first | omega | (simp; done) | (simp; omega))).set 0 _).set 1 _
      | exact ((((((show Blk (World.drew (World.alloc w2 (.cells #[.int .i64 0, .slice none 0 0] 27))) w2.heap.size 27 _ from Blk.new w2 _ _)).below bw3 (by first | omega | (simp; done) | (simp; omega))).below bw4 (by first | omega | (simp; done) | (simp; omega))).below bw5 (by first | omega | (simp; done) | (simp; omega))).set 0 _).set 1 _
      | exact bx_size hBw3
      | exact bx_size hBw4
      | exact bx_size hBw5
      | exact Nat.le_refl _
      | (simp; done)
      | (simp; omega)
      | exact ((OB.of (IO.mono w5io (bx_size hBw4)) (Nat.le_refl _)).below (below_alloc _ _) (Nat.le_refl _)).monoHi (by simp)
      | exact ((((OB.of w5io (Nat.le_refl _)).low (by first | (simp; done) | (simp; omega)) _).low (by first | (simp; done) | (simp; omega)) _).mono0 (by first | omega | exact bx_size hBw4 | exact (bx_size (bx_alloc hBw4 _)))).monoHi (by simp)
      | exact (bx_alloc hBw5 _).out
      | exact (bx_set (p := ⟨w4.heap.size, 1, none⟩) (bx_set (p := ⟨w4.heap.size, 0, none⟩) hBw5 (show w2.heap.size ≤ w4.heap.size from bx_size hBw4) _) (show w2.heap.size ≤ w4.heap.size from bx_size hBw4) _).out
      | exact (bx_set (p := ⟨w3.heap.size, 1, none⟩) (bx_set (p := ⟨w3.heap.size, 0, none⟩) hBw5 (show w2.heap.size ≤ w3.heap.size from bx_size hBw3) _) (show w2.heap.size ≤ w3.heap.size from bx_size hBw3) _).out
      | exact (bx_set (p := ⟨w2.heap.size, 1, none⟩) (bx_set (p := ⟨w2.heap.size, 0, none⟩) hBw5 (show w2.heap.size ≤ w2.heap.size from Nat.le_refl _) _) (show w2.heap.size ≤ w2.heap.size from Nat.le_refl _) _).out
  case rest =>
    obtain ⟨gw6, w6A, w6c, rfl, rfl, HC⟩ := hcut
    rename World => w6
    obtain ⟨⟨kbw6, ⟨hglw6, hghw6⟩, obw6, b⟩⟩ := HC
    have kHW0 := kbw6.at_ (i := 0) rfl
    have kHW1 := kbw6.at_ (i := 1) rfl
    clear kbw6
    have HW := Bx.mk obw6
    clear obw6
    have zw6 := b.size
    replace bw := bw.trans (b.mono bw.size)
    replace ka0_0 := ((bcell b).1 _ _ (by omega)).trans ka0_0
    replace ka0_1 := ((bcell b).1 _ _ (by omega)).trans ka0_1
    replace ka1_0 := ((bcell b).1 _ _ (by omega)).trans ka1_0
    replace ka1_1 := ((bcell b).1 _ _ (by omega)).trans ka1_1
    replace HX0 := Bx.mk (HX0.out.below b (by omega))
    replace HX1 := Bx.mk (HX1.out.below b (by omega))
    clear b
    go_wp2_with fail
    refine (toRhythm_any _ _ _ _ _ (by exact HX0.out.ir)).mono ?_
    rintro e w7 ⟨w7A, w7c, rfl, w7io, b⟩
    have zw7 := b.size
    replace bw := bw.trans (b.mono bw.size)
    replace ka0_0 := ((bcell b).1 _ _ (by omega)).trans ka0_0
    replace ka0_1 := ((bcell b).1 _ _ (by omega)).trans ka0_1
    replace ka1_0 := ((bcell b).1 _ _ (by omega)).trans ka1_0
    replace ka1_1 := ((bcell b).1 _ _ (by omega)).trans ka1_1
    replace kHW0 := ((bcell b).1 _ _ (by omega)).trans kHW0
    replace kHW1 := ((bcell b).1 _ _ (by omega)).trans kHW1
    replace HX0 := Bx.mk (HX0.out.below b (by omega))
    replace HX1 := Bx.mk (HX1.out.below b (by omega))
    replace HW := Bx.mk (HW.out.below b (by omega))
    clear b
    have HC0 := Bx.mk (OB.of (w7io.mono (by first | omega | (simp <;> omega) : w6.heap.size ≤ _)) (Nat.le_refl _))
    clear w7io
    have ltw7_0 : gw6 < w7.heap.size := by omega
    have ltw7_1 : w.heap.size < w7.heap.size := by omega
    have ltw7_2 : w.heap.size + 1 < w7.heap.size := by omega
    go_wp2_with fail
    clear ltw7_0
    clear ltw7_1
    clear ltw7_2
    refine (toRhythm_any _ _ _ _ _ (by exact HX1.out.ir.alloc _)).mono ?_
    rintro e w8 ⟨w8A, w8c, rfl, w8io, b⟩
    have b' : Below w7.heap.size w7 w8 := (below_alloc _ _).trans (b.mono (by simp <;> omega))
    have kx0_0 : w8.cell? ⟨w7.heap.size, 0, none⟩ = some (.int .i64 s0) := ((bcell b).1 _ _ (by simp <;> omega)).trans (by simp [go_sem])
    have kx0_1 : w8.cell? ⟨w7.heap.size, 1, none⟩ = some (.slice w7A xs0.length w7c) := ((bcell b).1 _ _ (by simp <;> omega)).trans (by simp [go_sem])
    have zw8 : w7.heap.size + 1 ≤ w8.heap.size := by have := b.size; simp at this; omega
    replace bw := bw.trans (b'.mono bw.size)
    replace ka0_0 := ((bcell b').1 _ _ (by omega)).trans ka0_0
    replace ka0_1 := ((bcell b').1 _ _ (by omega)).trans ka0_1
    replace ka1_0 := ((bcell b').1 _ _ (by omega)).trans ka1_0
    replace ka1_1 := ((bcell b').1 _ _ (by omega)).trans ka1_1
    replace kHW0 := ((bcell b').1 _ _ (by omega)).trans kHW0
    replace kHW1 := ((bcell b').1 _ _ (by omega)).trans kHW1
    replace HX0 := Bx.mk (HX0.out.below b' (by omega))
    replace HX1 := Bx.mk (HX1.out.below b' (by omega))
    replace HW := Bx.mk (HW.out.below b' (by omega))
    replace HC0 := Bx.mk (HC0.out.below b' (by omega))
    clear b b'
    have HC1 := Bx.mk (OB.of (w8io.mono (by first | omega | (simp <;> omega) : w7.heap.size + 1 ≤ _)) (Nat.le_refl _))
    clear w8io
    have ltw8_0 : gw6 < w8.heap.size := by omega
    have ltw8_1 : w.heap.size < w8.heap.size := by omega
    have ltw8_2 : w.heap.size + 1 < w8.heap.size := by omega
    have ltw8_3 : w7.heap.size < w8.heap.size := by omega
    go_wp2_with fail
    clear ltw8_0
    clear ltw8_1
    clear ltw8_2
    clear ltw8_3
    refine (implSumRh_any _ _ _ _ _ _ _ _ _ HS0.out HS1.out (by exact HC0.out.ir.alloc _) (by exact HC1.out.ir.alloc _)).mono ?_
    rintro e w9 ⟨w9A, w9c, rfl, w9io, b⟩
    have b' : Below w8.heap.size w8 w9 := (below_alloc _ _).trans (b.mono (by simp <;> omega))
    have kx1_0 : w9.cell? ⟨w8.heap.size, 0, none⟩ = some (.int .i64 s1) := ((bcell b).1 _ _ (by simp <;> omega)).trans (by simp [go_sem])
    have kx1_1 : w9.cell? ⟨w8.heap.size, 1, none⟩ = some (.slice w8A xs1.length w8c) := ((bcell b).1 _ _ (by simp <;> omega)).trans (by simp [go_sem])
    have zw9 : w8.heap.size + 1 ≤ w9.heap.size := by have := b.size; simp at this; omega
    replace bw := bw.trans (b'.mono bw.size)
    replace ka0_0 := ((bcell b').1 _ _ (by omega)).trans ka0_0
    replace ka0_1 := ((bcell b').1 _ _ (by omega)).trans ka0_1
    replace ka1_0 := ((bcell b').1 _ _ (by omega)).trans ka1_0
    replace ka1_1 := ((bcell b').1 _ _ (by omega)).trans ka1_1
    replace kHW0 := ((bcell b').1 _ _ (by omega)).trans kHW0
    replace kHW1 := ((bcell b').1 _ _ (by omega)).trans kHW1
    replace kx0_0 := ((bcell b').1 _ _ (by omega)).trans kx0_0
    replace kx0_1 := ((bcell b').1 _ _ (by omega)).trans kx0_1
    replace HX0 := Bx.mk (HX0.out.below b' (by omega))
    replace HX1 := Bx.mk (HX1.out.below b' (by omega))
    replace HW := Bx.mk (HW.out.below b' (by omega))
    replace HC0 := Bx.mk (HC0.out.below b' (by omega))
    replace HC1 := Bx.mk (HC1.out.below b' (by omega))
    clear b b'
    have HG := Bx.mk (OB.of (w9io.mono (by first | omega | (simp <;> omega) : w8.heap.size + 1 ≤ _)) (Nat.le_refl _))
    clear w9io
    have ltw9_0 : gw6 < w9.heap.size := by omega
    have ltw9_1 : w.heap.size < w9.heap.size := by omega
    have ltw9_2 : w.heap.size + 1 < w9.heap.size := by omega
    have ltw9_3 : w7.heap.size < w9.heap.size := by omega
    have ltw9_4 : w8.heap.size < w9.heap.size := by omega
    go_wp2_with fail
    clear ltw9_0
    clear ltw9_1
    clear ltw9_2
    clear ltw9_3
    clear ltw9_4
    refine (eqRhythm_any _ _ _ _ _ _ _ _ _ (by exact HG.out.ir.alloc _) (by exact HW.out.ir.alloc _)).mono ?_
    rintro e w10 ⟨rfl, b⟩
    have b' : Below w9.heap.size w9 w10 := (below_alloc _ _).trans (b.mono (by simp <;> omega))
    have kHG0 : w10.cell? ⟨w9.heap.size, 0, none⟩ = some (.int .i64 (sumRs s0 xs0 s1 xs1)) := ((bcell b).1 _ _ (by simp <;> omega)).trans (by simp [go_sem])
    have kHG1 : w10.cell? ⟨w9.heap.size, 1, none⟩ = some (.slice w9A (sumRl s0 xs0 s1 xs1).length w9c) := ((bcell b).1 _ _ (by simp <;> omega)).trans (by simp [go_sem])
    have zw10 : w9.heap.size + 1 ≤ w10.heap.size := by have := b.size; simp at this; omega
    replace bw := bw.trans (b'.mono bw.size)
    replace ka0_0 := ((bcell b').1 _ _ (by omega)).trans ka0_0
    replace ka0_1 := ((bcell b').1 _ _ (by omega)).trans ka0_1
    replace ka1_0 := ((bcell b').1 _ _ (by omega)).trans ka1_0
    replace ka1_1 := ((bcell b').1 _ _ (by omega)).trans ka1_1
    replace kHW0 := ((bcell b').1 _ _ (by omega)).trans kHW0
    replace kHW1 := ((bcell b').1 _ _ (by omega)).trans kHW1
    replace kx0_0 := ((bcell b').1 _ _ (by omega)).trans kx0_0
    replace kx0_1 := ((bcell b').1 _ _ (by omega)).trans kx0_1
    replace kx1_0 := ((bcell b').1 _ _ (by omega)).trans kx1_0
    replace kx1_1 := ((bcell b').1 _ _ (by omega)).trans kx1_1
    replace HX0 := Bx.mk (HX0.out.below b' (by omega))
    replace HX1 := Bx.mk (HX1.out.below b' (by omega))
    replace HW := Bx.mk (HW.out.below b' (by omega))
    replace HC0 := Bx.mk (HC0.out.below b' (by omega))
    replace HC1 := Bx.mk (HC1.out.below b' (by omega))
    replace HG := Bx.mk (HG.out.below b' (by omega))
    clear b b'
    go_wp2_with fail
    have hB : Bx (Below w10.heap.size w10 w10.drew) := ⟨(Below.refl _ _).drew⟩
    have ka0_0_d : w10.drew.cell? _ = _ := ka0_0
    have ka0_1_d : w10.drew.cell? _ = _ := ka0_1
    have ka1_0_d : w10.drew.cell? _ = _ := ka1_0
    have ka1_1_d : w10.drew.cell? _ = _ := ka1_1
    have kHW0_d : w10.drew.cell? _ = _ := kHW0
    have kHW1_d : w10.drew.cell? _ = _ := kHW1
    have kx0_0_d : w10.drew.cell? _ = _ := kx0_0
    have kx0_1_d : w10.drew.cell? _ = _ := kx0_1
    have kx1_0_d : w10.drew.cell? _ = _ := kx1_0
    have kx1_1_d : w10.drew.cell? _ = _ := kx1_1
    have kHG0_d : w10.drew.cell? _ = _ := kHG0
    have kHG1_d : w10.drew.cell? _ = _ := kHG1
    go_region_held3 (fun w' => w'.cell? ⟨w.heap.size, 0, none⟩ = some (.int .i64 s0) ∧ w'.cell? ⟨w.heap.size, 1, none⟩ = some (.slice A0 xs0.length c0) ∧ w'.cell? ⟨w.heap.size + 1, 0, none⟩ = some (.int .i64 s1) ∧ w'.cell? ⟨w.heap.size + 1, 1, none⟩ = some (.slice A1 xs1.length c1) ∧ w'.cell? ⟨gw6, 0, none⟩ = some (.int .i64 (sumRs s0 xs0 s1 xs1)) ∧ w'.cell? ⟨gw6, 1, none⟩ = some (.slice w6A (sumRl s0 xs0 s1 xs1).length w6c) ∧ w'.cell? ⟨w7.heap.size, 0, none⟩ = some (.int .i64 s0) ∧ w'.cell? ⟨w7.heap.size, 1, none⟩ = some (.slice w7A xs0.length w7c) ∧ w'.cell? ⟨w8.heap.size, 0, none⟩ = some (.int .i64 s1) ∧ w'.cell? ⟨w8.heap.size, 1, none⟩ = some (.slice w8A xs1.length w8c) ∧ w'.cell? ⟨w9.heap.size, 0, none⟩ = some (.int .i64 (sumRs s0 xs0 s1 xs1)) ∧ w'.cell? ⟨w9.heap.size, 1, none⟩ = some (.slice w9A (sumRl s0 xs0 s1 xs1).length w9c) ∧ Bx (Below w10.heap.size w10 w'))
      (exact ⟨by assumption, by assumption, by assumption, by assumption, by assumption, by assumption, by assumption, by assumption, by assumption, by assumption, by assumption, by assumption, by assumption⟩)
      (first
        | (go_at_call 17; refine (toRhythm_any _ _ _ _ _ (by exact HX0.out.ir.below (Bx.out (by assumption)))).mono ?_; rintro e w11 ⟨w11A, w11c, rfl, w11io, bw11⟩; have hBw11 : Bx (Below w10.heap.size w10 w11) := ⟨Below.trans (Bx.out (by assumption)) (bw11.mono (by simp))⟩; have ka0_0_w11 := ((bcell hBw11.out).1 _ _ (by omega)).trans ka0_0; have ka0_1_w11 := ((bcell hBw11.out).1 _ _ (by omega)).trans ka0_1; have ka1_0_w11 := ((bcell hBw11.out).1 _ _ (by omega)).trans ka1_0; have ka1_1_w11 := ((bcell hBw11.out).1 _ _ (by omega)).trans ka1_1; have kHW0_w11 := ((bcell hBw11.out).1 _ _ (by omega)).trans kHW0; have kHW1_w11 := ((bcell hBw11.out).1 _ _ (by omega)).trans kHW1; have kx0_0_w11 := ((bcell hBw11.out).1 _ _ (by omega)).trans kx0_0; have kx0_1_w11 := ((bcell hBw11.out).1 _ _ (by omega)).trans kx0_1; have kx1_0_w11 := ((bcell hBw11.out).1 _ _ (by omega)).trans kx1_0; have kx1_1_w11 := ((bcell hBw11.out).1 _ _ (by omega)).trans kx1_1; have kHG0_w11 := ((bcell hBw11.out).1 _ _ (by omega)).trans kHG0; have kHG1_w11 := ((bcell hBw11.out).1 _ _ (by omega)).trans kHG1)
        | (go_at_call 19; refine (eqRhythm_any _ _ _ _ _ _ _ _ _ (by exact HC0.out.ir.below hBw11.out) (by exact w11io.reads)).mono ?_; rintro e w12 ⟨rfl, bw12⟩; have hBw12 : Bx (Below w10.heap.size w10 w12) := ⟨Below.trans hBw11.out (bw12.mono hBw11.out.size)⟩; have ka0_0_w12 := ((bcell hBw12.out).1 _ _ (by omega)).trans ka0_0; have ka0_1_w12 := ((bcell hBw12.out).1 _ _ (by omega)).trans ka0_1; have ka1_0_w12 := ((bcell hBw12.out).1 _ _ (by omega)).trans ka1_0; have ka1_1_w12 := ((bcell hBw12.out).1 _ _ (by omega)).trans ka1_1; have kHW0_w12 := ((bcell hBw12.out).1 _ _ (by omega)).trans kHW0; have kHW1_w12 := ((bcell hBw12.out).1 _ _ (by omega)).trans kHW1; have kx0_0_w12 := ((bcell hBw12.out).1 _ _ (by omega)).trans kx0_0; have kx0_1_w12 := ((bcell hBw12.out).1 _ _ (by omega)).trans kx0_1; have kx1_0_w12 := ((bcell hBw12.out).1 _ _ (by omega)).trans kx1_0; have kx1_1_w12 := ((bcell hBw12.out).1 _ _ (by omega)).trans kx1_1; have kHG0_w12 := ((bcell hBw12.out).1 _ _ (by omega)).trans kHG0; have kHG1_w12 := ((bcell hBw12.out).1 _ _ (by omega)).trans kHG1))
    have b := hBw12.out
    have zw12 := b.size
    replace bw := bw.trans (b.mono bw.size)
    replace ka0_0 := ((bcell b).1 _ _ (by omega)).trans ka0_0
    replace ka0_1 := ((bcell b).1 _ _ (by omega)).trans ka0_1
    replace ka1_0 := ((bcell b).1 _ _ (by omega)).trans ka1_0
    replace ka1_1 := ((bcell b).1 _ _ (by omega)).trans ka1_1
    replace kHW0 := ((bcell b).1 _ _ (by omega)).trans kHW0
    replace kHW1 := ((bcell b).1 _ _ (by omega)).trans kHW1
    replace kx0_0 := ((bcell b).1 _ _ (by omega)).trans kx0_0
    replace kx0_1 := ((bcell b).1 _ _ (by omega)).trans kx0_1
    replace kx1_0 := ((bcell b).1 _ _ (by omega)).trans kx1_0
    replace kx1_1 := ((bcell b).1 _ _ (by omega)).trans kx1_1
    replace kHG0 := ((bcell b).1 _ _ (by omega)).trans kHG0
    replace kHG1 := ((bcell b).1 _ _ (by omega)).trans kHG1
    replace HX0 := Bx.mk (HX0.out.below b (by omega))
    replace HX1 := Bx.mk (HX1.out.below b (by omega))
    replace HW := Bx.mk (HW.out.below b (by omega))
    replace HC0 := Bx.mk (HC0.out.below b (by omega))
    replace HC1 := Bx.mk (HC1.out.below b (by omega))
    replace HG := Bx.mk (HG.out.below b (by omega))
    clear b
    go_wp2_with fail
    have hB : Bx (Below w12.heap.size w12 w12.drew) := ⟨(Below.refl _ _).drew⟩
    have ka0_0_d : w12.drew.cell? _ = _ := ka0_0
    have ka0_1_d : w12.drew.cell? _ = _ := ka0_1
    have ka1_0_d : w12.drew.cell? _ = _ := ka1_0
    have ka1_1_d : w12.drew.cell? _ = _ := ka1_1
    have kHW0_d : w12.drew.cell? _ = _ := kHW0
    have kHW1_d : w12.drew.cell? _ = _ := kHW1
    have kx0_0_d : w12.drew.cell? _ = _ := kx0_0
    have kx0_1_d : w12.drew.cell? _ = _ := kx0_1
    have kx1_0_d : w12.drew.cell? _ = _ := kx1_0
    have kx1_1_d : w12.drew.cell? _ = _ := kx1_1
    have kHG0_d : w12.drew.cell? _ = _ := kHG0
    have kHG1_d : w12.drew.cell? _ = _ := kHG1
    go_region_held3 (fun w' => w'.cell? ⟨w.heap.size, 0, none⟩ = some (.int .i64 s0) ∧ w'.cell? ⟨w.heap.size, 1, none⟩ = some (.slice A0 xs0.length c0) ∧ w'.cell? ⟨w.heap.size + 1, 0, none⟩ = some (.int .i64 s1) ∧ w'.cell? ⟨w.heap.size + 1, 1, none⟩ = some (.slice A1 xs1.length c1) ∧ w'.cell? ⟨gw6, 0, none⟩ = some (.int .i64 (sumRs s0 xs0 s1 xs1)) ∧ w'.cell? ⟨gw6, 1, none⟩ = some (.slice w6A (sumRl s0 xs0 s1 xs1).length w6c) ∧ w'.cell? ⟨w7.heap.size, 0, none⟩ = some (.int .i64 s0) ∧ w'.cell? ⟨w7.heap.size, 1, none⟩ = some (.slice w7A xs0.length w7c) ∧ w'.cell? ⟨w8.heap.size, 0, none⟩ = some (.int .i64 s1) ∧ w'.cell? ⟨w8.heap.size, 1, none⟩ = some (.slice w8A xs1.length w8c) ∧ w'.cell? ⟨w9.heap.size, 0, none⟩ = some (.int .i64 (sumRs s0 xs0 s1 xs1)) ∧ w'.cell? ⟨w9.heap.size, 1, none⟩ = some (.slice w9A (sumRl s0 xs0 s1 xs1).length w9c) ∧ Bx (Below w12.heap.size w12 w'))
      (exact ⟨by assumption, by assumption, by assumption, by assumption, by assumption, by assumption, by assumption, by assumption, by assumption, by assumption, by assumption, by assumption, by assumption⟩)
      (first
        | (go_at_call 17; refine (toRhythm_any _ _ _ _ _ (by exact HX1.out.ir.below (Bx.out (by assumption)))).mono ?_; rintro e w13 ⟨w13A, w13c, rfl, w13io, bw13⟩; have hBw13 : Bx (Below w12.heap.size w12 w13) := ⟨Below.trans (Bx.out (by assumption)) (bw13.mono (by simp))⟩; have ka0_0_w13 := ((bcell hBw13.out).1 _ _ (by omega)).trans ka0_0; have ka0_1_w13 := ((bcell hBw13.out).1 _ _ (by omega)).trans ka0_1; have ka1_0_w13 := ((bcell hBw13.out).1 _ _ (by omega)).trans ka1_0; have ka1_1_w13 := ((bcell hBw13.out).1 _ _ (by omega)).trans ka1_1; have kHW0_w13 := ((bcell hBw13.out).1 _ _ (by omega)).trans kHW0; have kHW1_w13 := ((bcell hBw13.out).1 _ _ (by omega)).trans kHW1; have kx0_0_w13 := ((bcell hBw13.out).1 _ _ (by omega)).trans kx0_0; have kx0_1_w13 := ((bcell hBw13.out).1 _ _ (by omega)).trans kx0_1; have kx1_0_w13 := ((bcell hBw13.out).1 _ _ (by omega)).trans kx1_0; have kx1_1_w13 := ((bcell hBw13.out).1 _ _ (by omega)).trans kx1_1; have kHG0_w13 := ((bcell hBw13.out).1 _ _ (by omega)).trans kHG0; have kHG1_w13 := ((bcell hBw13.out).1 _ _ (by omega)).trans kHG1)
        | (go_at_call 19; refine (eqRhythm_any _ _ _ _ _ _ _ _ _ (by exact HC1.out.ir.below hBw13.out) (by exact w13io.reads)).mono ?_; rintro e w14 ⟨rfl, bw14⟩; have hBw14 : Bx (Below w12.heap.size w12 w14) := ⟨Below.trans hBw13.out (bw14.mono hBw13.out.size)⟩; have ka0_0_w14 := ((bcell hBw14.out).1 _ _ (by omega)).trans ka0_0; have ka0_1_w14 := ((bcell hBw14.out).1 _ _ (by omega)).trans ka0_1; have ka1_0_w14 := ((bcell hBw14.out).1 _ _ (by omega)).trans ka1_0; have ka1_1_w14 := ((bcell hBw14.out).1 _ _ (by omega)).trans ka1_1; have kHW0_w14 := ((bcell hBw14.out).1 _ _ (by omega)).trans kHW0; have kHW1_w14 := ((bcell hBw14.out).1 _ _ (by omega)).trans kHW1; have kx0_0_w14 := ((bcell hBw14.out).1 _ _ (by omega)).trans kx0_0; have kx0_1_w14 := ((bcell hBw14.out).1 _ _ (by omega)).trans kx0_1; have kx1_0_w14 := ((bcell hBw14.out).1 _ _ (by omega)).trans kx1_0; have kx1_1_w14 := ((bcell hBw14.out).1 _ _ (by omega)).trans kx1_1; have kHG0_w14 := ((bcell hBw14.out).1 _ _ (by omega)).trans kHG0; have kHG1_w14 := ((bcell hBw14.out).1 _ _ (by omega)).trans kHG1))
    have b := hBw14.out
    have zw14 := b.size
    replace bw := bw.trans (b.mono bw.size)
    replace ka0_0 := ((bcell b).1 _ _ (by omega)).trans ka0_0
    replace ka0_1 := ((bcell b).1 _ _ (by omega)).trans ka0_1
    replace ka1_0 := ((bcell b).1 _ _ (by omega)).trans ka1_0
    replace ka1_1 := ((bcell b).1 _ _ (by omega)).trans ka1_1
    replace kHW0 := ((bcell b).1 _ _ (by omega)).trans kHW0
    replace kHW1 := ((bcell b).1 _ _ (by omega)).trans kHW1
    replace kx0_0 := ((bcell b).1 _ _ (by omega)).trans kx0_0
    replace kx0_1 := ((bcell b).1 _ _ (by omega)).trans kx0_1
    replace kx1_0 := ((bcell b).1 _ _ (by omega)).trans kx1_0
    replace kx1_1 := ((bcell b).1 _ _ (by omega)).trans kx1_1
    replace kHG0 := ((bcell b).1 _ _ (by omega)).trans kHG0
    replace kHG1 := ((bcell b).1 _ _ (by omega)).trans kHG1
    replace HX0 := Bx.mk (HX0.out.below b (by omega))
    replace HX1 := Bx.mk (HX1.out.below b (by omega))
    replace HW := Bx.mk (HW.out.below b (by omega))
    replace HC0 := Bx.mk (HC0.out.below b (by omega))
    replace HC1 := Bx.mk (HC1.out.below b (by omega))
    replace HG := Bx.mk (HG.out.below b (by omega))
    clear b
    go_wp2_with fail
    refine (markRhythm_any _ _ _ _ _ _ _ (by exact HC0.out.io) (by omega) (by omega)).mono ?_
    rintro e w15 ⟨rfl, m, o⟩
    have zw15 := o.size
    replace bw := bw.trans (HC0.out.bl o (by omega) (by omega))
    replace ka0_0 := (HC0.out.cell o (by omega) (by omega)).trans ka0_0
    replace ka0_1 := (HC0.out.cell o (by omega) (by omega)).trans ka0_1
    replace ka1_0 := (HC0.out.cell o (by omega) (by omega)).trans ka1_0
    replace ka1_1 := (HC0.out.cell o (by omega) (by omega)).trans ka1_1
    replace kHW0 := (HC0.out.cell o (by omega) (by omega)).trans kHW0
    replace kHW1 := (HC0.out.cell o (by omega) (by omega)).trans kHW1
    replace kx0_0 := (HC0.out.cell o (by omega) (by omega)).trans kx0_0
    replace kx0_1 := (HC0.out.cell o (by omega) (by omega)).trans kx0_1
    replace kx1_0 := (HC0.out.cell o (by omega) (by omega)).trans kx1_0
    replace kx1_1 := (HC0.out.cell o (by omega) (by omega)).trans kx1_1
    replace kHG0 := (HC0.out.cell o (by omega) (by omega)).trans kHG0
    replace kHG1 := (HC0.out.cell o (by omega) (by omega)).trans kHG1
    replace HX0 := Bx.mk (HX0.out.only o HC0.out (by omega))
    replace HX1 := Bx.mk (HX1.out.only o HC0.out (by omega))
    replace HW := Bx.mk (HW.out.only o HC0.out (by omega))
    replace HC1 := Bx.mk (HC1.out.only o HC0.out (by omega))
    replace HG := Bx.mk (HG.out.only o HC0.out (by omega))
    replace HC0 := Bx.mk (HC0.out.marked m)
    clear o m
    go_wp2_with fail
    refine (markRhythm_any _ _ _ _ _ _ _ (by exact HC1.out.io) (by omega) (by omega)).mono ?_
    rintro e w16 ⟨rfl, m, o⟩
    have zw16 := o.size
    replace bw := bw.trans (HC1.out.bl o (by omega) (by omega))
    replace ka0_0 := (HC1.out.cell o (by omega) (by omega)).trans ka0_0
    replace ka0_1 := (HC1.out.cell o (by omega) (by omega)).trans ka0_1
    replace ka1_0 := (HC1.out.cell o (by omega) (by omega)).trans ka1_0
    replace ka1_1 := (HC1.out.cell o (by omega) (by omega)).trans ka1_1
    replace kHW0 := (HC1.out.cell o (by omega) (by omega)).trans kHW0
    replace kHW1 := (HC1.out.cell o (by omega) (by omega)).trans kHW1
    replace kx0_0 := (HC1.out.cell o (by omega) (by omega)).trans kx0_0
    replace kx0_1 := (HC1.out.cell o (by omega) (by omega)).trans kx0_1
    replace kx1_0 := (HC1.out.cell o (by omega) (by omega)).trans kx1_0
    replace kx1_1 := (HC1.out.cell o (by omega) (by omega)).trans kx1_1
    replace kHG0 := (HC1.out.cell o (by omega) (by omega)).trans kHG0
    replace kHG1 := (HC1.out.cell o (by omega) (by omega)).trans kHG1
    replace HX0 := Bx.mk (HX0.out.only o HC1.out (by omega))
    replace HX1 := Bx.mk (HX1.out.only o HC1.out (by omega))
    replace HW := Bx.mk (HW.out.only o HC1.out (by omega))
    replace HC0 := Bx.mk (HC0.out.only o HC1.out (by omega))
    replace HG := Bx.mk (HG.out.only o HC1.out (by omega))
    replace HC1 := Bx.mk (HC1.out.marked m)
    clear o m
    go_wp2_with fail
    refine (eqRhythm_any _ _ _ _ _ _ _ _ _ (by exact HG.out.ir) (by exact HW.out.ir)).mono ?_
    rintro e w17 ⟨rfl, b⟩
    have zw17 := b.size
    replace bw := bw.trans (b.mono bw.size)
    replace ka0_0 := ((bcell b).1 _ _ (by omega)).trans ka0_0
    replace ka0_1 := ((bcell b).1 _ _ (by omega)).trans ka0_1
    replace ka1_0 := ((bcell b).1 _ _ (by omega)).trans ka1_0
    replace ka1_1 := ((bcell b).1 _ _ (by omega)).trans ka1_1
    replace kHW0 := ((bcell b).1 _ _ (by omega)).trans kHW0
    replace kHW1 := ((bcell b).1 _ _ (by omega)).trans kHW1
    replace kx0_0 := ((bcell b).1 _ _ (by omega)).trans kx0_0
    replace kx0_1 := ((bcell b).1 _ _ (by omega)).trans kx0_1
    replace kx1_0 := ((bcell b).1 _ _ (by omega)).trans kx1_0
    replace kx1_1 := ((bcell b).1 _ _ (by omega)).trans kx1_1
    replace kHG0 := ((bcell b).1 _ _ (by omega)).trans kHG0
    replace kHG1 := ((bcell b).1 _ _ (by omega)).trans kHG1
    replace HX0 := Bx.mk (HX0.out.below b (by omega))
    replace HX1 := Bx.mk (HX1.out.below b (by omega))
    replace HW := Bx.mk (HW.out.below b (by omega))
    replace HC0 := Bx.mk (HC0.out.below b (by omega))
    replace HC1 := Bx.mk (HC1.out.below b (by omega))
    replace HG := Bx.mk (HG.out.below b (by omega))
    clear b
    go_wp2_with fail
    refine (markRhythm_any _ _ _ _ _ _ _ (by exact HG.out.io) (by omega) (by omega)).mono ?_
    rintro e w18 ⟨rfl, m, o⟩
    have zw18 := o.size
    replace bw := bw.trans (HG.out.bl o (by omega) (by omega))
    replace ka0_0 := (HG.out.cell o (by omega) (by omega)).trans ka0_0
    replace ka0_1 := (HG.out.cell o (by omega) (by omega)).trans ka0_1
    replace ka1_0 := (HG.out.cell o (by omega) (by omega)).trans ka1_0
    replace ka1_1 := (HG.out.cell o (by omega) (by omega)).trans ka1_1
    replace kHW0 := (HG.out.cell o (by omega) (by omega)).trans kHW0
    replace kHW1 := (HG.out.cell o (by omega) (by omega)).trans kHW1
    replace kx0_0 := (HG.out.cell o (by omega) (by omega)).trans kx0_0
    replace kx0_1 := (HG.out.cell o (by omega) (by omega)).trans kx0_1
    replace kx1_0 := (HG.out.cell o (by omega) (by omega)).trans kx1_0
    replace kx1_1 := (HG.out.cell o (by omega) (by omega)).trans kx1_1
    replace kHG0 := (HG.out.cell o (by omega) (by omega)).trans kHG0
    replace kHG1 := (HG.out.cell o (by omega) (by omega)).trans kHG1
    replace HX0 := Bx.mk (HX0.out.only o HG.out (by omega))
    replace HX1 := Bx.mk (HX1.out.only o HG.out (by omega))
    replace HW := Bx.mk (HW.out.only o HG.out (by omega))
    replace HC0 := Bx.mk (HC0.out.only o HG.out (by omega))
    replace HC1 := Bx.mk (HC1.out.only o HG.out (by omega))
    replace HG := Bx.mk (HG.out.marked m)
    clear o m
    go_wp2_with fail
    refine (heldRhythm_any _ _ _ _ _ _ (by exact HG.out.ir) (by omega) (by omega)).mono ?_
    rintro e w19 ⟨rfl, b⟩
    have zw19 := b.size
    replace bw := bw.trans (b.mono bw.size)
    replace ka0_0 := ((bcell b).1 _ _ (by omega)).trans ka0_0
    replace ka0_1 := ((bcell b).1 _ _ (by omega)).trans ka0_1
    replace ka1_0 := ((bcell b).1 _ _ (by omega)).trans ka1_0
    replace ka1_1 := ((bcell b).1 _ _ (by omega)).trans ka1_1
    replace kHW0 := ((bcell b).1 _ _ (by omega)).trans kHW0
    replace kHW1 := ((bcell b).1 _ _ (by omega)).trans kHW1
    replace kx0_0 := ((bcell b).1 _ _ (by omega)).trans kx0_0
    replace kx0_1 := ((bcell b).1 _ _ (by omega)).trans kx0_1
    replace kx1_0 := ((bcell b).1 _ _ (by omega)).trans kx1_0
    replace kx1_1 := ((bcell b).1 _ _ (by omega)).trans kx1_1
    replace kHG0 := ((bcell b).1 _ _ (by omega)).trans kHG0
    replace kHG1 := ((bcell b).1 _ _ (by omega)).trans kHG1
    replace HX0 := Bx.mk (HX0.out.below b (by omega))
    replace HX1 := Bx.mk (HX1.out.below b (by omega))
    replace HW := Bx.mk (HW.out.below b (by omega))
    replace HC0 := Bx.mk (HC0.out.below b (by omega))
    replace HC1 := Bx.mk (HC1.out.below b (by omega))
    replace HG := Bx.mk (HG.out.below b (by omega))
    clear b
    go_upto_region 31 with (fail)
    go_cut [15, 16] (fun sb sv wx => ∃ (g : Nat) (A : Option Addr) (c : Nat), sb = .pointer (some ⟨g, 0, none⟩) ∧ sv = .bool (twoOk s0 xs0 s1 xs1) ∧ Bx (Blk wx g 27 #[.int .i64 (sumRs s0 xs0 s1 xs1), .slice A (sumRl s0 xs0 s1 xs1).length c] ∧ (w19.heap.size ≤ g ∧ g < wx.heap.size) ∧ OB w19.heap.size wx.heap.size wx A c (sumRl s0 xs0 s1 xs1) ∧ Below w19.heap.size w19 wx))
    case first =>
      have hB : Bx (Below w19.heap.size w19 w19.drew) := ⟨(Below.refl _ _).drew⟩
      have hB0 : Bx (Below w19.heap.size w19 w19) := ⟨Below.refl _ _⟩
      have ka0_0_d : w19.drew.cell? _ = _ := ka0_0
      have ka0_1_d : w19.drew.cell? _ = _ := ka0_1
      have ka1_0_d : w19.drew.cell? _ = _ := ka1_0
      have ka1_1_d : w19.drew.cell? _ = _ := ka1_1
      have kHW0_d : w19.drew.cell? _ = _ := kHW0
      have kHW1_d : w19.drew.cell? _ = _ := kHW1
      have kx0_0_d : w19.drew.cell? _ = _ := kx0_0
      have kx0_1_d : w19.drew.cell? _ = _ := kx0_1
      have kx1_0_d : w19.drew.cell? _ = _ := kx1_0
      have kx1_1_d : w19.drew.cell? _ = _ := kx1_1
      have kHG0_d : w19.drew.cell? _ = _ := kHG0
      have kHG1_d : w19.drew.cell? _ = _ := kHG1
      go_region_held3 (fun w' => w'.cell? ⟨w.heap.size, 0, none⟩ = some (.int .i64 s0) ∧ w'.cell? ⟨w.heap.size, 1, none⟩ = some (.slice A0 xs0.length c0) ∧ w'.cell? ⟨w.heap.size + 1, 0, none⟩ = some (.int .i64 s1) ∧ w'.cell? ⟨w.heap.size + 1, 1, none⟩ = some (.slice A1 xs1.length c1) ∧ w'.cell? ⟨gw6, 0, none⟩ = some (.int .i64 (sumRs s0 xs0 s1 xs1)) ∧ w'.cell? ⟨gw6, 1, none⟩ = some (.slice w6A (sumRl s0 xs0 s1 xs1).length w6c) ∧ w'.cell? ⟨w7.heap.size, 0, none⟩ = some (.int .i64 s0) ∧ w'.cell? ⟨w7.heap.size, 1, none⟩ = some (.slice w7A xs0.length w7c) ∧ w'.cell? ⟨w8.heap.size, 0, none⟩ = some (.int .i64 s1) ∧ w'.cell? ⟨w8.heap.size, 1, none⟩ = some (.slice w8A xs1.length w8c) ∧ w'.cell? ⟨w9.heap.size, 0, none⟩ = some (.int .i64 (sumRs s0 xs0 s1 xs1)) ∧ w'.cell? ⟨w9.heap.size, 1, none⟩ = some (.slice w9A (sumRl s0 xs0 s1 xs1).length w9c) ∧ Bx (Below w19.heap.size w19 w'))
        ((refine (fun (hK : Bx (Below w19.heap.size w19 _)) => ⟨((bcell hK.out).1 _ _ (by omega)).trans ka0_0, ((bcell hK.out).1 _ _ (by omega)).trans ka0_1, ((bcell hK.out).1 _ _ (by omega)).trans ka1_0, ((bcell hK.out).1 _ _ (by omega)).trans ka1_1, ((bcell hK.out).1 _ _ (by omega)).trans kHW0, ((bcell hK.out).1 _ _ (by omega)).trans kHW1, ((bcell hK.out).1 _ _ (by omega)).trans kx0_0, ((bcell hK.out).1 _ _ (by omega)).trans kx0_1, ((bcell hK.out).1 _ _ (by omega)).trans kx1_0, ((bcell hK.out).1 _ _ (by omega)).trans kx1_1, ((bcell hK.out).1 _ _ (by omega)).trans kHG0, ((bcell hK.out).1 _ _ (by omega)).trans kHG1, hK⟩) ?_; first | assumption | exact bx_alloc (by assumption) _ | exact bx_drew (bx_alloc (by assumption) _) | exact bx_set (bx_set (by first | assumption | exact bx_alloc (by assumption) _ | exact bx_drew (bx_alloc (by assumption) _)) (bx_size (by assumption)) _) (bx_size (by assumption)) _ | exact bx_set (by first | assumption | exact bx_alloc (by assumption) _ | exact bx_drew (bx_alloc (by assumption) _)) (bx_size (by assumption)) _))
        (first
          | (go_at_call_of 17 (c0); refine (toRhythm_any _ _ _ _ _ (by exact HX0.out.ir.below (Bx.out (by first | assumption | exact bx_alloc (by assumption) _ | exact bx_drew (bx_alloc (by assumption) _))))).mono ?_; rintro e w20 ⟨w20A, w20c, rfl, w20io, bw20⟩; have hBw20 : Bx (Below w19.heap.size w19 w20) := bx_to (by first | assumption | exact bx_alloc (by assumption) _ | exact bx_drew (bx_alloc (by assumption) _)) bw20; obtain ⟨hclw20, hfrw20⟩ := bcell bw20; have hzw20 := bw20.size; (try simp at hzw20); have ltaw20 : w.heap.size < w20.heap.size := (by have := bx_size hBw20; omega); have ltbw20 : w.heap.size + 1 < w20.heap.size := (by have := bx_size hBw20; omega); (try have ltw19w20 : w19.heap.size < w20.heap.size := (by omega)); skip)
          | (go_at_call_of 17 (c1); refine (toRhythm_any _ _ _ _ _ (by exact HX1.out.ir.below (Bx.out (by first | assumption | exact bx_alloc (by assumption) _ | exact bx_drew (bx_alloc (by assumption) _))))).mono ?_; rintro e w21 ⟨w21A, w21c, rfl, w21io, bw21⟩; have hBw21 : Bx (Below w19.heap.size w19 w21) := bx_to (by first | assumption | exact bx_alloc (by assumption) _ | exact bx_drew (bx_alloc (by assumption) _)) bw21; obtain ⟨hclw21, hfrw21⟩ := bcell bw21; have hzw21 := bw21.size; (try simp at hzw21); have ltaw21 : w.heap.size < w21.heap.size := (by have := bx_size hBw21; omega); have ltbw21 : w.heap.size + 1 < w21.heap.size := (by have := bx_size hBw21; omega); (try have ltw19w21 : w19.heap.size < w21.heap.size := (by omega)); (try have ltw20w21 : w20.heap.size < w21.heap.size := (by omega)); skip)
          | (go_at_call 45; refine (implSumRh_any _ _ _ _ _ _ _ _ _ HS0.out HS1.out (by first | exact (w20io.reads).below bw21 | exact ((w20io.reads).alloc _).below bw21 | exact ((w20io.reads).below bw21).alloc _) (by first | exact w21io.reads | exact (w21io.reads).alloc _)).mono ?_; rintro e w22 ⟨w22A, w22c, rfl, w22io, bw22⟩; have hBw22 : Bx (Below w19.heap.size w19 w22) := bx_to (by first | assumption | exact bx_alloc (by assumption) _ | exact bx_drew (bx_alloc (by assumption) _)) bw22; obtain ⟨hclw22, hfrw22⟩ := bcell bw22; have hzw22 := bw22.size; (try simp at hzw22); have ltaw22 : w.heap.size < w22.heap.size := (by have := bx_size hBw22; omega); have ltbw22 : w.heap.size + 1 < w22.heap.size := (by have := bx_size hBw22; omega); (try have ltw19w22 : w19.heap.size < w22.heap.size := (by omega)); (try have ltw20w22 : w20.heap.size < w22.heap.size := (by omega)); (try have ltw21w22 : w21.heap.size < w22.heap.size := (by omega)); skip))
      all_goals (go_wp2_with fail; go_meet)
      all_goals refine ⟨_, w22A, w22c, rfl, rfl, ⟨⟨?_, ⟨?_, ?_⟩, ?_, ?_⟩⟩⟩
      all_goals first
        | exact Blk.new _ _ _
        | exact (((Blk.new w21 _ _).below bw22 (by first | omega | (simp; done) | (simp; omega))).set 0 _).set 1 _
        | exact ((((Blk.new w20 _ _).below bw21 (by first | omega | (simp; done) | (simp; omega))).below bw22 (by first | omega | (simp; done) | (simp; omega))).set 0 _).set 1 _
        | exact (((((Blk.new w19 _ _).below bw20 (by first | omega | (simp; done) | (simp; omega))).below bw21 (by first | omega | (simp; done) | (simp; omega))).below bw22 (by first | omega | (simp; done) | (simp; omega))).set 0 _).set 1 _
        | exact ((((((show Blk (World.drew (World.alloc w19 (.cells #[.int .i64 0, .slice none 0 0] 27))) w19.heap.size 27 _ from Blk.new w19 _ _)).below bw20 (by first | omega | (simp; done) | (simp; omega))).below bw21 (by first | omega | (simp; done) | (simp; omega))).below bw22 (by first | omega | (simp; done) | (simp; omega))).set 0 _).set 1 _
        | exact bx_size hBw20
        | exact bx_size hBw21
        | exact bx_size hBw22
        | exact Nat.le_refl _
        | (simp; done)
        | (simp; omega)
        | exact ((OB.of (IO.mono w22io (bx_size hBw21)) (Nat.le_refl _)).below (below_alloc _ _) (Nat.le_refl _)).monoHi (by simp)
        | exact ((((OB.of w22io (Nat.le_refl _)).low (by first | (simp; done) | (simp; omega)) _).low (by first | (simp; done) | (simp; omega)) _).mono0 (by first | omega | exact bx_size hBw21 | exact (bx_size (bx_alloc hBw21 _)))).monoHi (by simp)
        | exact (bx_alloc hBw22 _).out
        | exact (bx_set (p := ⟨w21.heap.size, 1, none⟩) (bx_set (p := ⟨w21.heap.size, 0, none⟩) hBw22 (show w19.heap.size ≤ w21.heap.size from bx_size hBw21) _) (show w19.heap.size ≤ w21.heap.size from bx_size hBw21) _).out
        | exact (bx_set (p := ⟨w20.heap.size, 1, none⟩) (bx_set (p := ⟨w20.heap.size, 0, none⟩) hBw22 (show w19.heap.size ≤ w20.heap.size from bx_size hBw20) _) (show w19.heap.size ≤ w20.heap.size from bx_size hBw20) _).out
        | exact (bx_set (p := ⟨w19.heap.size, 1, none⟩) (bx_set (p := ⟨w19.heap.size, 0, none⟩) hBw22 (show w19.heap.size ≤ w19.heap.size from Nat.le_refl _) _) (show w19.heap.size ≤ w19.heap.size from Nat.le_refl _) _).out
    case rest =>
      obtain ⟨gw23, w23A, w23c, rfl, rfl, HC⟩ := hcut
      rename World => w23
      obtain ⟨⟨kbw23, ⟨hglw23, hghw23⟩, obw23, b⟩⟩ := HC
      have kHH0 := kbw23.at_ (i := 0) rfl
      have kHH1 := kbw23.at_ (i := 1) rfl
      clear kbw23
      have HH := Bx.mk obw23
      clear obw23
      have zw23 := b.size
      replace bw := bw.trans (b.mono bw.size)
      replace ka0_0 := ((bcell b).1 _ _ (by omega)).trans ka0_0
      replace ka0_1 := ((bcell b).1 _ _ (by omega)).trans ka0_1
      replace ka1_0 := ((bcell b).1 _ _ (by omega)).trans ka1_0
      replace ka1_1 := ((bcell b).1 _ _ (by omega)).trans ka1_1
      replace kHW0 := ((bcell b).1 _ _ (by omega)).trans kHW0
      replace kHW1 := ((bcell b).1 _ _ (by omega)).trans kHW1
      replace kx0_0 := ((bcell b).1 _ _ (by omega)).trans kx0_0
      replace kx0_1 := ((bcell b).1 _ _ (by omega)).trans kx0_1
      replace kx1_0 := ((bcell b).1 _ _ (by omega)).trans kx1_0
      replace kx1_1 := ((bcell b).1 _ _ (by omega)).trans kx1_1
      replace kHG0 := ((bcell b).1 _ _ (by omega)).trans kHG0
      replace kHG1 := ((bcell b).1 _ _ (by omega)).trans kHG1
      replace HX0 := Bx.mk (HX0.out.below b (by omega))
      replace HX1 := Bx.mk (HX1.out.below b (by omega))
      replace HW := Bx.mk (HW.out.below b (by omega))
      replace HC0 := Bx.mk (HC0.out.below b (by omega))
      replace HC1 := Bx.mk (HC1.out.below b (by omega))
      replace HG := Bx.mk (HG.out.below b (by omega))
      clear b
      go_wp2_with fail
      refine (eqRhythm_any _ _ _ _ _ _ _ _ _ (by exact HH.out.ir) (by exact HW.out.ir)).mono ?_
      rintro e w24 ⟨rfl, b⟩
      have zw24 := b.size
      replace bw := bw.trans (b.mono bw.size)
      replace ka0_0 := ((bcell b).1 _ _ (by omega)).trans ka0_0
      replace ka0_1 := ((bcell b).1 _ _ (by omega)).trans ka0_1
      replace ka1_0 := ((bcell b).1 _ _ (by omega)).trans ka1_0
      replace ka1_1 := ((bcell b).1 _ _ (by omega)).trans ka1_1
      replace kHW0 := ((bcell b).1 _ _ (by omega)).trans kHW0
      replace kHW1 := ((bcell b).1 _ _ (by omega)).trans kHW1
      replace kx0_0 := ((bcell b).1 _ _ (by omega)).trans kx0_0
      replace kx0_1 := ((bcell b).1 _ _ (by omega)).trans kx0_1
      replace kx1_0 := ((bcell b).1 _ _ (by omega)).trans kx1_0
      replace kx1_1 := ((bcell b).1 _ _ (by omega)).trans kx1_1
      replace kHG0 := ((bcell b).1 _ _ (by omega)).trans kHG0
      replace kHG1 := ((bcell b).1 _ _ (by omega)).trans kHG1
      replace kHH0 := ((bcell b).1 _ _ (by omega)).trans kHH0
      replace kHH1 := ((bcell b).1 _ _ (by omega)).trans kHH1
      replace HX0 := Bx.mk (HX0.out.below b (by omega))
      replace HX1 := Bx.mk (HX1.out.below b (by omega))
      replace HW := Bx.mk (HW.out.below b (by omega))
      replace HC0 := Bx.mk (HC0.out.below b (by omega))
      replace HC1 := Bx.mk (HC1.out.below b (by omega))
      replace HG := Bx.mk (HG.out.below b (by omega))
      replace HH := Bx.mk (HH.out.below b (by omega))
      clear b
      go_wp2_with fail
      refine (heldRhythm_any _ _ _ _ _ _ (by exact HG.out.ir) (by omega) (by omega)).mono ?_
      rintro e w25 ⟨rfl, b⟩
      have zw25 := b.size
      replace bw := bw.trans (b.mono bw.size)
      replace ka0_0 := ((bcell b).1 _ _ (by omega)).trans ka0_0
      replace ka0_1 := ((bcell b).1 _ _ (by omega)).trans ka0_1
      replace ka1_0 := ((bcell b).1 _ _ (by omega)).trans ka1_0
      replace ka1_1 := ((bcell b).1 _ _ (by omega)).trans ka1_1
      replace kHW0 := ((bcell b).1 _ _ (by omega)).trans kHW0
      replace kHW1 := ((bcell b).1 _ _ (by omega)).trans kHW1
      replace kx0_0 := ((bcell b).1 _ _ (by omega)).trans kx0_0
      replace kx0_1 := ((bcell b).1 _ _ (by omega)).trans kx0_1
      replace kx1_0 := ((bcell b).1 _ _ (by omega)).trans kx1_0
      replace kx1_1 := ((bcell b).1 _ _ (by omega)).trans kx1_1
      replace kHG0 := ((bcell b).1 _ _ (by omega)).trans kHG0
      replace kHG1 := ((bcell b).1 _ _ (by omega)).trans kHG1
      replace kHH0 := ((bcell b).1 _ _ (by omega)).trans kHH0
      replace kHH1 := ((bcell b).1 _ _ (by omega)).trans kHH1
      replace HX0 := Bx.mk (HX0.out.below b (by omega))
      replace HX1 := Bx.mk (HX1.out.below b (by omega))
      replace HW := Bx.mk (HW.out.below b (by omega))
      replace HC0 := Bx.mk (HC0.out.below b (by omega))
      replace HC1 := Bx.mk (HC1.out.below b (by omega))
      replace HG := Bx.mk (HG.out.below b (by omega))
      replace HH := Bx.mk (HH.out.below b (by omega))
      clear b
      go_wp2_with fail
      go_ret
      exact ⟨rfl, bw⟩
end Go.Proofs.Ytiiiejkolodjpaa
