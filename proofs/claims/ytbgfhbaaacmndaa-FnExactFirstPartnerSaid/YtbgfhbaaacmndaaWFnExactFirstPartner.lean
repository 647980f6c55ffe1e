/- The law on FirstPartner, walked. -/
import Derived.Test.YtbgfhbaaacmndaaFpT
import Derived.Test.YtbgfhbaaacmndaaLawRh
import Derived.Test.YtbgfhbaaacmndaaFinRh
import Derived.Test.YtbgfhbaaacmndaaBas
import Derived.Test.YtbgfhbaaacmndaaLawCn
import Derived.Deep.RegionHeld3
import Derived.Deep.DeepCutAuto
namespace Go.Proofs.Ytbgfhbaaacmndaa
open Go.RowKit

set_option maxHeartbeats 16000000 in
set_option maxRecDepth 20000 in
theorem walkFnExactFirstPartner (w : World) (s0 : Int) (hs0 : -9223372036854775808 ≤ s0 ∧ s0 ≤ 9223372036854775807) (A0 : Option Addr) (c0 : Nat) (xs0 : List Int) (ha0 : AR .i64 w A0 xs0) (_hf0 : Fits xs0) :
    Calls Try.prog 5 #[.agg #[.int .i64 s0, .slice A0 xs0.length c0]] w fun e w' => e = .returned (.bool true) ∧ Below w.heap.size w w' := by
  obtain ⟨W0, hW0⟩ : ∃ W0, W0 = (w.alloc (.cells #[.int .i64 s0, .slice A0 xs0.length c0] 24)) := ⟨_, rfl⟩
  have bw : Below w.heap.size w W0 := by rw [hW0]; exact (Below.refl _ _).alloc (by simp <;> omega) _
  have zW0 : w.heap.size + 1 ≤ W0.heap.size := by rw [hW0]; simp
  have ka0_0 : W0.cell? ⟨w.heap.size, 0, none⟩ = some (.int .i64 s0) := by rw [hW0]; simp [go_sem]
  have ka0_1 : W0.cell? ⟨w.heap.size, 1, none⟩ = some (.slice A0 xs0.length c0) := by rw [hW0]; simp [go_sem]
  have hml0 := ha0.1
  by_cases h0 : (xs0.length : Int) ≤ (1048576 : Int)
  rotate_left
  · have HN : Bx ((1048576 : Int) < (xs0.length : Int)) := ⟨by omega⟩
    go_enter Try.func5, Try.ntmps5
    go_wp2_with fail
    rw [← hW0]
    clear hW0
    refine (szRhythm_no _ _ _ _ hml0 _ (by omega) HN.out _).mono ?_
    rintro e w1 ⟨rfl, b⟩
    replace bw := bw.trans (b.mono bw.size)
    go_wp2_with fail
    go_ret
    exact ⟨rfl, bw⟩
  have HX0 := Bx.mk ((RB.of_ir (ha0.ir (by omega))).below bw (Nat.le_refl _))
  have HS0 := Bx.mk hs0
  clear ha0 hs0
  go_enter Try.func5, Try.ntmps5
  go_wp2_with fail
  rw [← hW0]
  clear hW0
  refine (szRhythm_yes _ _ _ _ hml0 _ (by omega) h0 _).mono ?_
  rintro e w1 ⟨rfl, b⟩
  have zw1 := b.size
  replace bw := bw.trans (b.mono bw.size)
  replace ka0_0 := ((bcell b).1 _ _ (by omega)).trans ka0_0
  replace ka0_1 := ((bcell b).1 _ _ (by omega)).trans ka0_1
  replace HX0 := Bx.mk (HX0.out.below b (by omega))
  clear b
  go_wp2_with fail
  refine (toRhythm_any _ _ _ _ _ (by exact HX0.out.ir)).mono ?_
  rintro e w2 ⟨w2A, w2c, rfl, w2io, b⟩
  have Hw2_0 := Bx.mk w2io.reads
  clear w2io
  have zw2 := b.size
  replace bw := bw.trans (b.mono bw.size)
  replace ka0_0 := ((bcell b).1 _ _ (by omega)).trans ka0_0
  replace ka0_1 := ((bcell b).1 _ _ (by omega)).trans ka0_1
  replace HX0 := Bx.mk (HX0.out.below b (by omega))
  clear b
  go_wp2_with fail
  refine (specFp_any _ _ _ _ _ HS0.out (by exact Hw2_0.out)).mono ?_
  rintro e w3 ⟨w3A, w3c, rfl, w3io, b⟩
  have zw3 := b.size
  replace bw := bw.trans (b.mono bw.size)
  replace ka0_0 := ((bcell b).1 _ _ (by omega)).trans ka0_0
  replace ka0_1 := ((bcell b).1 _ _ (by omega)).trans ka0_1
  replace HX0 := Bx.mk (HX0.out.below b (by omega))
  clear b
  clear Hw2_0
  have HW := Bx.mk w3io
  clear w3io
  have ltw3_0 : w.heap.size < w3.heap.size := by omega
  go_wp2_with fail
  clear ltw3_0
  refine (toRhythm_any _ _ _ _ _ (by exact HX0.out.ir.alloc _)).mono ?_
  rintro e w4 ⟨w4A, w4c, rfl, w4io, b⟩
  have b' : Below w3.heap.size w3 w4 := (below_alloc _ _).trans (b.mono (by simp <;> omega))
  have kHW0 : w4.cell? ⟨w3.heap.size, 0, none⟩ = some (.int .i64 ((fS s0 (fpO s0 xs0)))) := ((bcell b).1 _ _ (by simp <;> omega)).trans (by simp [go_sem])
  have kHW1 : w4.cell? ⟨w3.heap.size, 1, none⟩ = some (.slice w3A ((fL (fpO s0 xs0))).length w3c) := ((bcell b).1 _ _ (by simp <;> omega)).trans (by simp [go_sem])
  have zw4 : w3.heap.size + 1 ≤ w4.heap.size := by have := b.size; simp at this; omega
  replace bw := bw.trans (b'.mono bw.size)
  replace ka0_0 := ((bcell b').1 _ _ (by omega)).trans ka0_0
  replace ka0_1 := ((bcell b').1 _ _ (by omega)).trans ka0_1
  replace HX0 := Bx.mk (HX0.out.below b' (by omega))
  replace HW := Bx.mk (HW.out.below b' (by omega))
  clear b b'
  have HC0 := Bx.mk (OB.of (w4io.mono (by first | omega | (simp <;> omega) : w3.heap.size + 1 ≤ _)) (Nat.le_refl _))
  clear w4io
  have ltw4_0 : w.heap.size < w4.heap.size := by omega
  have ltw4_1 : w3.heap.size < w4.heap.size := by omega
  go_wp2_with fail
  clear ltw4_0
  clear ltw4_1
  refine (implFp_any _ _ _ _ _ HS0.out (by exact HC0.out.ir.alloc _)).mono ?_
  rintro e w5 ⟨w5A, w5c, rfl, w5io, b⟩
  have b' : Below w4.heap.size w4 w5 := (below_alloc _ _).trans (b.mono (by simp <;> omega))
  have kx0_0 : w5.cell? ⟨w4.heap.size, 0, none⟩ = some (.int .i64 s0) := ((bcell b).1 _ _ (by simp <;> omega)).trans (by simp [go_sem])
  have kx0_1 : w5.cell? ⟨w4.heap.size, 1, none⟩ = some (.slice w4A xs0.length w4c) := ((bcell b).1 _ _ (by simp <;> omega)).trans (by simp [go_sem])
  have zw5 : w4.heap.size + 1 ≤ w5.heap.size := by have := b.size; simp at this; omega
  replace bw := bw.trans (b'.mono bw.size)
  replace ka0_0 := ((bcell b').1 _ _ (by omega)).trans ka0_0
  replace ka0_1 := ((bcell b').1 _ _ (by omega)).trans ka0_1
  replace kHW0 := ((bcell b').1 _ _ (by omega)).trans kHW0
  replace kHW1 := ((bcell b').1 _ _ (by omega)).trans kHW1
  replace HX0 := Bx.mk (HX0.out.below b' (by omega))
  replace HW := Bx.mk (HW.out.below b' (by omega))
  replace HC0 := Bx.mk (HC0.out.below b' (by omega))
  clear b b'
  have HG := Bx.mk (OB.of (w5io.mono (by first | omega | (simp <;> omega) : w4.heap.size + 1 ≤ _)) (Nat.le_refl _))
  clear w5io
  have ltw5_0 : w.heap.size < w5.heap.size := by omega
  have ltw5_1 : w3.heap.size < w5.heap.size := by omega
  have ltw5_2 : w4.heap.size < w5.heap.size := by omega
  go_wp2_with fail
  clear ltw5_0
  clear ltw5_1
  clear ltw5_2
  refine (eqRhythm_any _ _ _ _ _ _ _ _ _ (by exact HG.out.ir.alloc _) (by exact HW.out.ir.alloc _)).mono ?_
  rintro e w6 ⟨rfl, b⟩
  have b' : Below w5.heap.size w5 w6 := (below_alloc _ _).trans (b.mono (by simp <;> omega))
  have kHG0 : w6.cell? ⟨w5.heap.size, 0, none⟩ = some (.int .i64 ((fS s0 (fpO s0 xs0)))) := ((bcell b).1 _ _ (by simp <;> omega)).trans (by simp [go_sem])
  have kHG1 : w6.cell? ⟨w5.heap.size, 1, none⟩ = some (.slice w5A ((fL (fpO s0 xs0))).length w5c) := ((bcell b).1 _ _ (by simp <;> omega)).trans (by simp [go_sem])
  have zw6 : w5.heap.size + 1 ≤ w6.heap.size := by have := b.size; simp at this; omega
  replace bw := bw.trans (b'.mono bw.size)
  replace ka0_0 := ((bcell b').1 _ _ (by omega)).trans ka0_0
  replace ka0_1 := ((bcell b').1 _ _ (by omega)).trans ka0_1
  replace kHW0 := ((bcell b').1 _ _ (by omega)).trans kHW0
  replace kHW1 := ((bcell b').1 _ _ (by omega)).trans kHW1
  replace kx0_0 := ((bcell b').1 _ _ (by omega)).trans kx0_0
  replace kx0_1 := ((bcell b').1 _ _ (by omega)).trans kx0_1
  replace HX0 := Bx.mk (HX0.out.below b' (by omega))
  replace HW := Bx.mk (HW.out.below b' (by omega))
  replace HC0 := Bx.mk (HC0.out.below b' (by omega))
  replace HG := Bx.mk (HG.out.below b' (by omega))
  clear b b'
  go_wp2_with fail
  have hB : Bx (Below w6.heap.size w6 w6.drew) := ⟨(Below.refl _ _).drew⟩
  have ka0_0_d : w6.drew.cell? _ = _ := ka0_0
  have ka0_1_d : w6.drew.cell? _ = _ := ka0_1
  have kHW0_d : w6.drew.cell? _ = _ := kHW0
  have kHW1_d : w6.drew.cell? _ = _ := kHW1
  have kx0_0_d : w6.drew.cell? _ = _ := kx0_0
  have kx0_1_d : w6.drew.cell? _ = _ := kx0_1
  have kHG0_d : w6.drew.cell? _ = _ := kHG0
  have kHG1_d : w6.drew.cell? _ = _ := kHG1
  go_region_held3 (fun w' => w'.cell? ⟨w.heap.size, 0, none⟩ = some (.int .i64 s0) ∧ w'.cell? ⟨w.heap.size, 1, none⟩ = some (.slice A0 xs0.length c0) ∧ w'.cell? ⟨w3.heap.size, 0, none⟩ = some (.int .i64 ((fS s0 (fpO s0 xs0)))) ∧ w'.cell? ⟨w3.heap.size, 1, none⟩ = some (.slice w3A ((fL (fpO s0 xs0))).length w3c) ∧ w'.cell? ⟨w4.heap.size, 0, none⟩ = some (.int .i64 s0) ∧ w'.cell? ⟨w4.heap.size, 1, none⟩ = some (.slice w4A xs0.length w4c) ∧ w'.cell? ⟨w5.heap.size, 0, none⟩ = some (.int .i64 ((fS s0 (fpO s0 xs0)))) ∧ w'.cell? ⟨w5.heap.size, 1, none⟩ = some (.slice w5A ((fL (fpO s0 xs0))).length w5c) ∧ Bx (Below w6.heap.size w6 w'))
    (exact ⟨by assumption, by assumption, by assumption, by assumption, by assumption, by assumption, by assumption, by assumption, by assumption⟩)
    (first
      | (go_at_call 11; refine (toRhythm_any _ _ _ _ _ (by exact HX0.out.ir.below (Bx.out (by assumption)))).mono ?_; rintro e w7 ⟨w7A, w7c, rfl, w7io, bw7⟩; have hBw7 : Bx (Below w6.heap.size w6 w7) := ⟨Below.trans (Bx.out (by assumption)) (bw7.mono (by simp))⟩; have ka0_0_w7 := ((bcell hBw7.out).1 _ _ (by omega)).trans ka0_0; have ka0_1_w7 := ((bcell hBw7.out).1 _ _ (by omega)).trans ka0_1; have kHW0_w7 := ((bcell hBw7.out).1 _ _ (by omega)).trans kHW0; have kHW1_w7 := ((bcell hBw7.out).1 _ _ (by omega)).trans kHW1; have kx0_0_w7 := ((bcell hBw7.out).1 _ _ (by omega)).trans kx0_0; have kx0_1_w7 := ((bcell hBw7.out).1 _ _ (by omega)).trans kx0_1; have kHG0_w7 := ((bcell hBw7.out).1 _ _ (by omega)).trans kHG0; have kHG1_w7 := ((bcell hBw7.out).1 _ _ (by omega)).trans kHG1)
      | (go_at_call 13; refine (eqRhythm_any _ _ _ _ _ _ _ _ _ (by exact HC0.out.ir.below hBw7.out) (by exact w7io.reads)).mono ?_; rintro e w8 ⟨rfl, bw8⟩; have hBw8 : Bx (Below w6.heap.size w6 w8) := ⟨Below.trans hBw7.out (bw8.mono hBw7.out.size)⟩; have ka0_0_w8 := ((bcell hBw8.out).1 _ _ (by omega)).trans ka0_0; have ka0_1_w8 := ((bcell hBw8.out).1 _ _ (by omega)).trans ka0_1; have kHW0_w8 := ((bcell hBw8.out).1 _ _ (by omega)).trans kHW0; have kHW1_w8 := ((bcell hBw8.out).1 _ _ (by omega)).trans kHW1; have kx0_0_w8 := ((bcell hBw8.out).1 _ _ (by omega)).trans kx0_0; have kx0_1_w8 := ((bcell hBw8.out).1 _ _ (by omega)).trans kx0_1; have kHG0_w8 := ((bcell hBw8.out).1 _ _ (by omega)).trans kHG0; have kHG1_w8 := ((bcell hBw8.out).1 _ _ (by omega)).trans kHG1))
  have b := hBw8.out
  have zw8 := b.size
  replace bw := bw.trans (b.mono bw.size)
  replace ka0_0 := ((bcell b).1 _ _ (by omega)).trans ka0_0
  replace ka0_1 := ((bcell b).1 _ _ (by omega)).trans ka0_1
  replace kHW0 := ((bcell b).1 _ _ (by omega)).trans kHW0
  replace kHW1 := ((bcell b).1 _ _ (by omega)).trans kHW1
  replace kx0_0 := ((bcell b).1 _ _ (by omega)).trans kx0_0
  replace kx0_1 := ((bcell b).1 _ _ (by omega)).trans kx0_1
  replace kHG0 := ((bcell b).1 _ _ (by omega)).trans kHG0
  replace kHG1 := ((bcell b).1 _ _ (by omega)).trans kHG1
  replace HX0 := Bx.mk (HX0.out.below b (by omega))
  replace HW := Bx.mk (HW.out.below b (by omega))
  replace HC0 := Bx.mk (HC0.out.below b (by omega))
  replace HG := Bx.mk (HG.out.below b (by omega))
  clear b
  go_wp2_with fail
  refine (markRhythm_any _ _ _ _ _ _ _ (by exact HC0.out.io) (by omega) (by omega)).mono ?_
  rintro e w9 ⟨rfl, m, o⟩
  have zw9 := o.size
  replace bw := bw.trans (HC0.out.bl o (by omega) (by omega))
  replace ka0_0 := (HC0.out.cell o (by omega) (by omega)).trans ka0_0
  replace ka0_1 := (HC0.out.cell o (by omega) (by omega)).trans ka0_1
  replace kHW0 := (HC0.out.cell o (by omega) (by omega)).trans kHW0
  replace kHW1 := (HC0.out.cell o (by omega) (by omega)).trans kHW1
  replace kx0_0 := (HC0.out.cell o (by omega) (by omega)).trans kx0_0
  replace kx0_1 := (HC0.out.cell o (by omega) (by omega)).trans kx0_1
  replace kHG0 := (HC0.out.cell o (by omega) (by omega)).trans kHG0
  replace kHG1 := (HC0.out.cell o (by omega) (by omega)).trans kHG1
  replace HX0 := Bx.mk (HX0.out.only o HC0.out (by omega))
  replace HW := Bx.mk (HW.out.only o HC0.out (by omega))
  replace HG := Bx.mk (HG.out.only o HC0.out (by omega))
  replace HC0 := Bx.mk (HC0.out.marked m)
  clear o m
  go_wp2_with fail
  refine (eqRhythm_any _ _ _ _ _ _ _ _ _ (by exact HG.out.ir) (by exact HW.out.ir)).mono ?_
  rintro e w10 ⟨rfl, b⟩
  have zw10 := b.size
  replace bw := bw.trans (b.mono bw.size)
  replace ka0_0 := ((bcell b).1 _ _ (by omega)).trans ka0_0
  replace ka0_1 := ((bcell b).1 _ _ (by omega)).trans ka0_1
  replace kHW0 := ((bcell b).1 _ _ (by omega)).trans kHW0
  replace kHW1 := ((bcell b).1 _ _ (by omega)).trans kHW1
  replace kx0_0 := ((bcell b).1 _ _ (by omega)).trans kx0_0
  replace kx0_1 := ((bcell b).1 _ _ (by omega)).trans kx0_1
  replace kHG0 := ((bcell b).1 _ _ (by omega)).trans kHG0
  replace kHG1 := ((bcell b).1 _ _ (by omega)).trans kHG1
  replace HX0 := Bx.mk (HX0.out.below b (by omega))
  replace HW := Bx.mk (HW.out.below b (by omega))
  replace HC0 := Bx.mk (HC0.out.below b (by omega))
  replace HG := Bx.mk (HG.out.below b (by omega))
  clear b
  go_wp2_with fail
  refine (markRhythm_any _ _ _ _ _ _ _ (by exact HG.out.io) (by omega) (by omega)).mono ?_
  rintro e w11 ⟨rfl, m, o⟩
  have zw11 := o.size
  replace bw := bw.trans (HG.out.bl o (by omega) (by omega))
  replace ka0_0 := (HG.out.cell o (by omega) (by omega)).trans ka0_0
  replace ka0_1 := (HG.out.cell o (by omega) (by omega)).trans ka0_1
  replace kHW0 := (HG.out.cell o (by omega) (by omega)).trans kHW0
  replace kHW1 := (HG.out.cell o (by omega) (by omega)).trans kHW1
  replace kx0_0 := (HG.out.cell o (by omega) (by omega)).trans kx0_0
  replace kx0_1 := (HG.out.cell o (by omega) (by omega)).trans kx0_1
  replace kHG0 := (HG.out.cell o (by omega) (by omega)).trans kHG0
  replace kHG1 := (HG.out.cell o (by omega) (by omega)).trans kHG1
  replace HX0 := Bx.mk (HX0.out.only o HG.out (by omega))
  replace HW := Bx.mk (HW.out.only o HG.out (by omega))
  replace HC0 := Bx.mk (HC0.out.only o HG.out (by omega))
  replace HG := Bx.mk (HG.out.marked m)
  clear o m
  go_wp2_with fail
  refine (heldRhythm_any _ _ _ _ _ _ (by exact HG.out.ir) (by omega) (by omega)).mono ?_
  rintro e w12 ⟨rfl, b⟩
  have zw12 := b.size
  replace bw := bw.trans (b.mono bw.size)
  replace ka0_0 := ((bcell b).1 _ _ (by omega)).trans ka0_0
  replace ka0_1 := ((bcell b).1 _ _ (by omega)).trans ka0_1
  replace kHW0 := ((bcell b).1 _ _ (by omega)).trans kHW0
  replace kHW1 := ((bcell b).1 _ _ (by omega)).trans kHW1
  replace kx0_0 := ((bcell b).1 _ _ (by omega)).trans kx0_0
  replace kx0_1 := ((bcell b).1 _ _ (by omega)).trans kx0_1
  replace kHG0 := ((bcell b).1 _ _ (by omega)).trans kHG0
  replace kHG1 := ((bcell b).1 _ _ (by omega)).trans kHG1
  replace HX0 := Bx.mk (HX0.out.below b (by omega))
  replace HW := Bx.mk (HW.out.below b (by omega))
  replace HC0 := Bx.mk (HC0.out.below b (by omega))
  replace HG := Bx.mk (HG.out.below b (by omega))
  clear b
  go_wp2_with fail
  refine (toRhythm_any _ _ _ _ _ (by exact HX0.out.ir)).mono ?_
  rintro e w13 ⟨w13A, w13c, rfl, w13io, b⟩
  have Hw13_0 := Bx.mk w13io.reads
  clear w13io
  have zw13 := b.size
  replace bw := bw.trans (b.mono bw.size)
  replace ka0_0 := ((bcell b).1 _ _ (by omega)).trans ka0_0
  replace ka0_1 := ((bcell b).1 _ _ (by omega)).trans ka0_1
  replace kHW0 := ((bcell b).1 _ _ (by omega)).trans kHW0
  replace kHW1 := ((bcell b).1 _ _ (by omega)).trans kHW1
  replace kx0_0 := ((bcell b).1 _ _ (by omega)).trans kx0_0
  replace kx0_1 := ((bcell b).1 _ _ (by omega)).trans kx0_1
  replace kHG0 := ((bcell b).1 _ _ (by omega)).trans kHG0
  replace kHG1 := ((bcell b).1 _ _ (by omega)).trans kHG1
  replace HX0 := Bx.mk (HX0.out.below b (by omega))
  replace HW := Bx.mk (HW.out.below b (by omega))
  replace HC0 := Bx.mk (HC0.out.below b (by omega))
  replace HG := Bx.mk (HG.out.below b (by omega))
  clear b
  go_wp2_with fail
  refine (implFp_any _ _ _ _ _ HS0.out (by exact Hw13_0.out)).mono ?_
  rintro e w14 ⟨w14A, w14c, rfl, w14io, b⟩
  have zw14 := b.size
  replace bw := bw.trans (b.mono bw.size)
  replace ka0_0 := ((bcell b).1 _ _ (by omega)).trans ka0_0
  replace ka0_1 := ((bcell b).1 _ _ (by omega)).trans ka0_1
  replace kHW0 := ((bcell b).1 _ _ (by omega)).trans kHW0
  replace kHW1 := ((bcell b).1 _ _ (by omega)).trans kHW1
  replace kx0_0 := ((bcell b).1 _ _ (by omega)).trans kx0_0
  replace kx0_1 := ((bcell b).1 _ _ (by omega)).trans kx0_1
  replace kHG0 := ((bcell b).1 _ _ (by omega)).trans kHG0
  replace kHG1 := ((bcell b).1 _ _ (by omega)).trans kHG1
  replace HX0 := Bx.mk (HX0.out.below b (by omega))
  replace HW := Bx.mk (HW.out.below b (by omega))
  replace HC0 := Bx.mk (HC0.out.below b (by omega))
  replace HG := Bx.mk (HG.out.below b (by omega))
  clear b
  clear Hw13_0
  have HH := Bx.mk (OB.of (w14io.mono (by first | omega | (simp <;> omega) : w13.heap.size ≤ _)) (Nat.le_refl _))
  clear w14io
  have ltw14_0 : w.heap.size < w14.heap.size := by omega
  have ltw14_1 : w3.heap.size < w14.heap.size := by omega
  have ltw14_2 : w4.heap.size < w14.heap.size := by omega
  have ltw14_3 : w5.heap.size < w14.heap.size := by omega
  go_wp2_with fail
  clear ltw14_0
  clear ltw14_1
  clear ltw14_2
  clear ltw14_3
  refine (eqRhythm_any _ _ _ _ _ _ _ _ _ (by exact HH.out.ir.alloc _) (by exact HW.out.ir.alloc _)).mono ?_
  rintro e w15 ⟨rfl, b⟩
  have b' : Below w14.heap.size w14 w15 := (below_alloc _ _).trans (b.mono (by simp <;> omega))
  have kHH0 : w15.cell? ⟨w14.heap.size, 0, none⟩ = some (.int .i64 ((fS s0 (fpO s0 xs0)))) := ((bcell b).1 _ _ (by simp <;> omega)).trans (by simp [go_sem])
  have kHH1 : w15.cell? ⟨w14.heap.size, 1, none⟩ = some (.slice w14A ((fL (fpO s0 xs0))).length w14c) := ((bcell b).1 _ _ (by simp <;> omega)).trans (by simp [go_sem])
  have zw15 : w14.heap.size + 1 ≤ w15.heap.size := by have := b.size; simp at this; omega
  replace bw := bw.trans (b'.mono bw.size)
  replace ka0_0 := ((bcell b').1 _ _ (by omega)).trans ka0_0
  replace ka0_1 := ((bcell b').1 _ _ (by omega)).trans ka0_1
  replace kHW0 := ((bcell b').1 _ _ (by omega)).trans kHW0
  replace kHW1 := ((bcell b').1 _ _ (by omega)).trans kHW1
  replace kx0_0 := ((bcell b').1 _ _ (by omega)).trans kx0_0
  replace kx0_1 := ((bcell b').1 _ _ (by omega)).trans kx0_1
  replace kHG0 := ((bcell b').1 _ _ (by omega)).trans kHG0
  replace kHG1 := ((bcell b').1 _ _ (by omega)).trans kHG1
  replace HX0 := Bx.mk (HX0.out.below b' (by omega))
  replace HW := Bx.mk (HW.out.below b' (by omega))
  replace HC0 := Bx.mk (HC0.out.below b' (by omega))
  replace HG := Bx.mk (HG.out.below b' (by omega))
  replace HH := Bx.mk (HH.out.below b' (by omega))
  clear b b'
  go_wp2_with fail
  refine (heldRhythm_any _ _ _ _ _ _ (by exact HG.out.ir) (by omega) (by omega)).mono ?_
  rintro e w16 ⟨rfl, b⟩
  have zw16 := b.size
  replace bw := bw.trans (b.mono bw.size)
  replace ka0_0 := ((bcell b).1 _ _ (by omega)).trans ka0_0
  replace ka0_1 := ((bcell b).1 _ _ (by omega)).trans ka0_1
  replace kHW0 := ((bcell b).1 _ _ (by omega)).trans kHW0
  replace kHW1 := ((bcell b).1 _ _ (by omega)).trans kHW1
  replace kx0_0 := ((bcell b).1 _ _ (by omega)).trans kx0_0
  replace kx0_1 := ((bcell b).1 _ _ (by omega)).trans kx0_1
  replace kHG0 := ((bcell b).1 _ _ (by omega)).trans kHG0
  replace kHG1 := ((bcell b).1 _ _ (by omega)).trans kHG1
  replace kHH0 := ((bcell b).1 _ _ (by omega)).trans kHH0
  replace kHH1 := ((bcell b).1 _ _ (by omega)).trans kHH1
  replace HX0 := Bx.mk (HX0.out.below b (by omega))
  replace HW := Bx.mk (HW.out.below b (by omega))
  replace HC0 := Bx.mk (HC0.out.below b (by omega))
  replace HG := Bx.mk (HG.out.below b (by omega))
  replace HH := Bx.mk (HH.out.below b (by omega))
  clear b
  go_wp2_with fail
  go_ret
  exact ⟨rfl, bw⟩
end Go.Proofs.Ytbgfhbaaacmndaa
