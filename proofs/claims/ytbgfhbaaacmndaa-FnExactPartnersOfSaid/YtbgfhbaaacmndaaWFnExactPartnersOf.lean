/- The law on PartnersOf, walked. -/
import Derived.Test.YtbgfhbaaacmndaaPtLT
import Derived.Test.YtbgfhbaaacmndaaLawRh
import Derived.Test.YtbgfhbaaacmndaaFinRh
import Derived.Test.YtbgfhbaaacmndaaBas
import Derived.Test.YtbgfhbaaacmndaaLawCn
import Derived.Deep.RegionHeld3
import Derived.Deep.DeepCutAuto
namespace Go.Proofs.Ytbgfhbaaacmndaa
open Go.RowKit

set_option maxHeartbeats 16000000 in
set_option maxRecDepth 20000 in
theorem walkFnExactPartnersOf (w : World) (s0 : Int) (hs0 : -9223372036854775808 ≤ s0 ∧ s0 ≤ 9223372036854775807) (A0 : Option Addr) (c0 : Nat) (xs0 : List Int) (ha0 : AR .i64 w A0 xs0) (_hf0 : Fits xs0) :
    Calls Try.prog 4 #[.agg #[.int .i64 s0, .slice A0 xs0.length c0]] w fun e w' => e = .returned (.bool true) ∧ Below w.heap.size w w' := by
  obtain ⟨W0, hW0⟩ : ∃ W0, W0 = (w.alloc (.cells #[.int .i64 s0, .slice A0 xs0.length c0] 24)) := ⟨_, rfl⟩
  have bw : Below w.heap.size w W0 := by rw [hW0]; exact (Below.refl _ _).alloc (by simp <;> omega) _
  have zW0 : w.heap.size + 1 ≤ W0.heap.size := by rw [hW0]; simp
  have ka0_0 : W0.cell? ⟨w.heap.size, 0, none⟩ = some (.int .i64 s0) := by rw [hW0]; simp [go_sem]
  have ka0_1 : W0.cell? ⟨w.heap.size, 1, none⟩ = some (.slice A0 xs0.length c0) := by rw [hW0]; simp [go_sem]
  have hml0 := ha0.1
  by_cases h0 : (xs0.length : Int) ≤ (1048576 : Int)
  rotate_left
  · have HN : Bx ((1048576 : Int) < (xs0.length : Int)) := ⟨by omega⟩
    go_enter Try.func4, Try.ntmps4
    go_wp2_with fail
    rw [← hW0]
    clear hW0
    refine (szRhythm_no _ _ _ _ hml0 _ (by omega) HN.out _).mono ?_
    rintro e w1 ⟨rfl, b⟩
    replace bw := bw.trans (b.mono bw.size)
    go_wp2_with fail
    go_ret
    exact ⟨rfl, bw⟩
  have HX0 := Bx.mk ((RB.of_ir (ha0.ir (by omega))).below bw (Nat.le_refl _))
  have HS0 := Bx.mk hs0
  clear ha0 hs0
  obtain ⟨hsh, htl⟩ := ptsL_short s0 xs0
  have HSH := Bx.mk hsh
  clear hsh
  go_enter Try.func4, Try.ntmps4
  go_wp2_with fail
  rw [← hW0]
  clear hW0
  refine (szRhythm_yes _ _ _ _ hml0 _ (by omega) h0 _).mono ?_
  rintro e w1 ⟨rfl, b⟩
  have zw1 := b.size
  replace bw := bw.trans (b.mono bw.size)
  replace ka0_0 := ((bcell b).1 _ _ (by omega)).trans ka0_0
  replace ka0_1 := ((bcell b).1 _ _ (by omega)).trans ka0_1
  replace HX0 := Bx.mk (HX0.out.below b (by omega))
  clear b
  go_wp2_with fail
  refine (toRhythm_any _ _ _ _ _ (by exact HX0.out.ir)).mono ?_
  rintro e w2 ⟨w2A, w2c, rfl, w2io, b⟩
  have Hw2_0 := Bx.mk w2io.reads
  clear w2io
  have zw2 := b.size
  replace bw := bw.trans (b.mono bw.size)
  replace ka0_0 := ((bcell b).1 _ _ (by omega)).trans ka0_0
  replace ka0_1 := ((bcell b).1 _ _ (by omega)).trans ka0_1
  replace HX0 := Bx.mk (HX0.out.below b (by omega))
  clear b
  go_wp2_with fail
  refine (specPts_any _ _ _ _ _ HS0.out (by exact Hw2_0.out)).mono ?_
  rintro e w3 ⟨w3V, rfl, w3rd, b⟩
  have zw3 := b.size
  replace bw := bw.trans (b.mono bw.size)
  replace ka0_0 := ((bcell b).1 _ _ (by omega)).trans ka0_0
  replace ka0_1 := ((bcell b).1 _ _ (by omega)).trans ka0_1
  replace HX0 := Bx.mk (HX0.out.below b (by omega))
  clear b
  clear Hw2_0
  have HW := Bx.mk w3rd
  clear w3rd
  go_wp2_with fail
  refine (toRhythm_any _ _ _ _ _ (by exact HX0.out.ir)).mono ?_
  rintro e w4 ⟨w4A, w4c, rfl, w4io, b⟩
  have zw4 := b.size
  replace bw := bw.trans (b.mono bw.size)
  replace ka0_0 := ((bcell b).1 _ _ (by omega)).trans ka0_0
  replace ka0_1 := ((bcell b).1 _ _ (by omega)).trans ka0_1
  replace HX0 := Bx.mk (HX0.out.below b (by omega))
  replace HW := Bx.mk (HW.out.below b (by omega))
  clear b
  have HC0 := Bx.mk (OB.of (w4io.mono (by first | omega | (simp <;> omega) : w3.heap.size ≤ _)) (Nat.le_refl _))
  clear w4io
  have ltw4_0 : w.heap.size < w4.heap.size := by omega
  go_wp2_with fail
  clear ltw4_0
  refine (implPts_any _ _ _ _ _ HS0.out (by exact HC0.out.ir.alloc _)).mono ?_
  rintro e w5 ⟨w5V, w5ws, w5gs, rfl, w5ro, b⟩
  have b' : Below w4.heap.size w4 w5 := (below_alloc _ _).trans (b.mono (by simp <;> omega))
  have kx0_0 : w5.cell? ⟨w4.heap.size, 0, none⟩ = some (.int .i64 s0) := ((bcell b).1 _ _ (by simp <;> omega)).trans (by simp [go_sem])
  have kx0_1 : w5.cell? ⟨w4.heap.size, 1, none⟩ = some (.slice w4A xs0.length w4c) := ((bcell b).1 _ _ (by simp <;> omega)).trans (by simp [go_sem])
  have zw5 : w4.heap.size + 1 ≤ w5.heap.size := by have := b.size; simp at this; omega
  replace bw := bw.trans (b'.mono bw.size)
  replace ka0_0 := ((bcell b').1 _ _ (by omega)).trans ka0_0
  replace ka0_1 := ((bcell b').1 _ _ (by omega)).trans ka0_1
  replace HX0 := Bx.mk (HX0.out.below b' (by omega))
  replace HW := Bx.mk (HW.out.below b' (by omega))
  replace HC0 := Bx.mk (HC0.out.below b' (by omega))
  clear b b'
  have HG := Bx.mk (OR.of (w5ro.base_le (by first | omega | (simp <;> omega) : w4.heap.size + 1 ≤ _)) (Nat.le_refl _))
  clear w5ro
  go_wp2_with fail
  refine (eqRhythmS_same _ _ _ _ _ _ _ HSH.out (by exact HG.out.1.rd) (by exact HW.out)).mono ?_
  rintro e w6 ⟨rfl, b⟩
  have zw6 := b.size
  replace bw := bw.trans (b.mono bw.size)
  replace ka0_0 := ((bcell b).1 _ _ (by omega)).trans ka0_0
  replace ka0_1 := ((bcell b).1 _ _ (by omega)).trans ka0_1
  replace kx0_0 := ((bcell b).1 _ _ (by omega)).trans kx0_0
  replace kx0_1 := ((bcell b).1 _ _ (by omega)).trans kx0_1
  replace HX0 := Bx.mk (HX0.out.below b (by omega))
  replace HW := Bx.mk (HW.out.below b (by omega))
  replace HC0 := Bx.mk (HC0.out.below b (by omega))
  replace HG := Bx.mk (HG.out.below b (by omega))
  clear b
  go_wp2_with fail
  have hB : Bx (Below w6.heap.size w6 w6.drew) := ⟨(Below.refl _ _).drew⟩
  have ka0_0_d : w6.drew.cell? _ = _ := ka0_0
  have ka0_1_d : w6.drew.cell? _ = _ := ka0_1
  have kx0_0_d : w6.drew.cell? _ = _ := kx0_0
  have kx0_1_d : w6.drew.cell? _ = _ := kx0_1
  go_region_held3 (fun w' => w'.cell? ⟨w.heap.size, 0, none⟩ = some (.int .i64 s0) ∧ w'.cell? ⟨w.heap.size, 1, none⟩ = some (.slice A0 xs0.length c0) ∧ w'.cell? ⟨w4.heap.size, 0, none⟩ = some (.int .i64 s0) ∧ w'.cell? ⟨w4.heap.size, 1, none⟩ = some (.slice w4A xs0.length w4c) ∧ Bx (Below w6.heap.size w6 w'))
    (exact ⟨by assumption, by assumption, by assumption, by assumption, by assumption⟩)
    (first
      | (go_at_call 11; refine (toRhythm_any _ _ _ _ _ (by exact HX0.out.ir.below (Bx.out (by assumption)))).mono ?_; rintro e w7 ⟨w7A, w7c, rfl, w7io, bw7⟩; have hBw7 : Bx (Below w6.heap.size w6 w7) := ⟨Below.trans (Bx.out (by assumption)) (bw7.mono (by simp))⟩; have ka0_0_w7 := ((bcell hBw7.out).1 _ _ (by omega)).trans ka0_0; have ka0_1_w7 := ((bcell hBw7.out).1 _ _ (by omega)).trans ka0_1; have kx0_0_w7 := ((bcell hBw7.out).1 _ _ (by omega)).trans kx0_0; have kx0_1_w7 := ((bcell hBw7.out).1 _ _ (by omega)).trans kx0_1)
      | (go_at_call 13; refine (eqRhythm_any _ _ _ _ _ _ _ _ _ (by exact HC0.out.ir.below hBw7.out) (by exact w7io.reads)).mono ?_; rintro e w8 ⟨rfl, bw8⟩; have hBw8 : Bx (Below w6.heap.size w6 w8) := ⟨Below.trans hBw7.out (bw8.mono hBw7.out.size)⟩; have ka0_0_w8 := ((bcell hBw8.out).1 _ _ (by omega)).trans ka0_0; have ka0_1_w8 := ((bcell hBw8.out).1 _ _ (by omega)).trans ka0_1; have kx0_0_w8 := ((bcell hBw8.out).1 _ _ (by omega)).trans kx0_0; have kx0_1_w8 := ((bcell hBw8.out).1 _ _ (by omega)).trans kx0_1))
  have b := hBw8.out
  have zw8 := b.size
  replace bw := bw.trans (b.mono bw.size)
  replace ka0_0 := ((bcell b).1 _ _ (by omega)).trans ka0_0
  replace ka0_1 := ((bcell b).1 _ _ (by omega)).trans ka0_1
  replace kx0_0 := ((bcell b).1 _ _ (by omega)).trans kx0_0
  replace kx0_1 := ((bcell b).1 _ _ (by omega)).trans kx0_1
  replace HX0 := Bx.mk (HX0.out.below b (by omega))
  replace HW := Bx.mk (HW.out.below b (by omega))
  replace HC0 := Bx.mk (HC0.out.below b (by omega))
  replace HG := Bx.mk (HG.out.below b (by omega))
  clear b
  go_wp2_with fail
  refine (markRhythm_any _ _ _ _ _ _ _ (by exact HC0.out.io) (by omega) (by omega)).mono ?_
  rintro e w9 ⟨rfl, m, o⟩
  have zw9 := o.size
  replace bw := bw.trans (HC0.out.bl o (by omega) (by omega))
  replace ka0_0 := (HC0.out.cell o (by omega) (by omega)).trans ka0_0
  replace ka0_1 := (HC0.out.cell o (by omega) (by omega)).trans ka0_1
  replace kx0_0 := (HC0.out.cell o (by omega) (by omega)).trans kx0_0
  replace kx0_1 := (HC0.out.cell o (by omega) (by omega)).trans kx0_1
  replace HX0 := Bx.mk (HX0.out.only o HC0.out (by omega))
  replace HW := Bx.mk (HW.out.only o HC0.out (by omega))
  replace HG := Bx.mk (HG.out.only o HC0.out (by omega))
  replace HC0 := Bx.mk (HC0.out.marked m)
  clear o m
  go_wp2_with fail
  refine (eqRhythmS_same _ _ _ _ _ _ _ HSH.out (by exact HG.out.1.rd) (by exact HW.out)).mono ?_
  rintro e w10 ⟨rfl, b⟩
  have zw10 := b.size
  replace bw := bw.trans (b.mono bw.size)
  replace ka0_0 := ((bcell b).1 _ _ (by omega)).trans ka0_0
  replace ka0_1 := ((bcell b).1 _ _ (by omega)).trans ka0_1
  replace kx0_0 := ((bcell b).1 _ _ (by omega)).trans kx0_0
  replace kx0_1 := ((bcell b).1 _ _ (by omega)).trans kx0_1
  replace HX0 := Bx.mk (HX0.out.below b (by omega))
  replace HW := Bx.mk (HW.out.below b (by omega))
  replace HC0 := Bx.mk (HC0.out.below b (by omega))
  replace HG := Bx.mk (HG.out.below b (by omega))
  clear b
  go_wp2_with fail
  refine (markRhythmS_any _ _ _ _ _ _ _ _ HSH.out (by exact HG.out.1) (by omega) (by omega) (by omega)).mono ?_
  rintro e w11 ⟨rfl, m, b⟩
  have zw11 := b.size
  replace bw := bw.trans (b.mono (by omega))
  replace ka0_0 := (b.cell (p := ⟨w.heap.size, 0, none⟩) (by show w.heap.size < _; omega)).trans ka0_0
  replace ka0_1 := (b.cell (p := ⟨w.heap.size, 1, none⟩) (by show w.heap.size < _; omega)).trans ka0_1
  replace kx0_0 := (b.cell (p := ⟨w4.heap.size, 0, none⟩) (by show w4.heap.size < _; omega)).trans kx0_0
  replace kx0_1 := (b.cell (p := ⟨w4.heap.size, 1, none⟩) (by show w4.heap.size < _; omega)).trans kx0_1
  replace HX0 := Bx.mk (HX0.out.below b (by omega))
  replace HW := Bx.mk (HW.out.below b (by omega))
  replace HC0 := Bx.mk (HC0.out.below b (by omega))
  replace HG := Bx.mk (HG.out.marked m)
  clear b m
  go_wp2_with fail
  refine (heldRhythmS_any _ _ _ _ _ _ _ HSH.out (by exact HG.out.1) (by omega) (by omega)).mono ?_
  rintro e w12 ⟨rfl, b⟩
  have zw12 := b.size
  replace bw := bw.trans (b.mono bw.size)
  replace ka0_0 := ((bcell b).1 _ _ (by omega)).trans ka0_0
  replace ka0_1 := ((bcell b).1 _ _ (by omega)).trans ka0_1
  replace kx0_0 := ((bcell b).1 _ _ (by omega)).trans kx0_0
  replace kx0_1 := ((bcell b).1 _ _ (by omega)).trans kx0_1
  replace HX0 := Bx.mk (HX0.out.below b (by omega))
  replace HW := Bx.mk (HW.out.below b (by omega))
  replace HC0 := Bx.mk (HC0.out.below b (by omega))
  replace HG := Bx.mk (HG.out.below b (by omega))
  clear b
  go_wp2_with fail
  refine (toRhythm_any _ _ _ _ _ (by exact HX0.out.ir)).mono ?_
  rintro e w13 ⟨w13A, w13c, rfl, w13io, b⟩
  have Hw13_0 := Bx.mk w13io.reads
  clear w13io
  have zw13 := b.size
  replace bw := bw.trans (b.mono bw.size)
  replace ka0_0 := ((bcell b).1 _ _ (by omega)).trans ka0_0
  replace ka0_1 := ((bcell b).1 _ _ (by omega)).trans ka0_1
  replace kx0_0 := ((bcell b).1 _ _ (by omega)).trans kx0_0
  replace kx0_1 := ((bcell b).1 _ _ (by omega)).trans kx0_1
  replace HX0 := Bx.mk (HX0.out.below b (by omega))
  replace HW := Bx.mk (HW.out.below b (by omega))
  replace HC0 := Bx.mk (HC0.out.below b (by omega))
  replace HG := Bx.mk (HG.out.below b (by omega))
  clear b
  go_wp2_with fail
  refine (implPts_any _ _ _ _ _ HS0.out (by exact Hw13_0.out)).mono ?_
  rintro e w14 ⟨w14V, w14ws, w14gs, rfl, w14ro, b⟩
  have zw14 := b.size
  replace bw := bw.trans (b.mono bw.size)
  replace ka0_0 := ((bcell b).1 _ _ (by omega)).trans ka0_0
  replace ka0_1 := ((bcell b).1 _ _ (by omega)).trans ka0_1
  replace kx0_0 := ((bcell b).1 _ _ (by omega)).trans kx0_0
  replace kx0_1 := ((bcell b).1 _ _ (by omega)).trans kx0_1
  replace HX0 := Bx.mk (HX0.out.below b (by omega))
  replace HW := Bx.mk (HW.out.below b (by omega))
  replace HC0 := Bx.mk (HC0.out.below b (by omega))
  replace HG := Bx.mk (HG.out.below b (by omega))
  clear b
  clear Hw13_0
  have HH := Bx.mk (OR.of (w14ro.base_le (by first | omega | (simp <;> omega) : w13.heap.size ≤ _)) (Nat.le_refl _))
  clear w14ro
  go_wp2_with fail
  refine (eqRhythmS_same _ _ _ _ _ _ _ HSH.out (by exact HH.out.1.rd) (by exact HW.out)).mono ?_
  rintro e w15 ⟨rfl, b⟩
  have zw15 := b.size
  replace bw := bw.trans (b.mono bw.size)
  replace ka0_0 := ((bcell b).1 _ _ (by omega)).trans ka0_0
  replace ka0_1 := ((bcell b).1 _ _ (by omega)).trans ka0_1
  replace kx0_0 := ((bcell b).1 _ _ (by omega)).trans kx0_0
  replace kx0_1 := ((bcell b).1 _ _ (by omega)).trans kx0_1
  replace HX0 := Bx.mk (HX0.out.below b (by omega))
  replace HW := Bx.mk (HW.out.below b (by omega))
  replace HC0 := Bx.mk (HC0.out.below b (by omega))
  replace HG := Bx.mk (HG.out.below b (by omega))
  replace HH := Bx.mk (HH.out.below b (by omega))
  clear b
  go_wp2_with fail
  refine (heldRhythmS_any _ _ _ _ _ _ _ HSH.out (by exact HG.out.1) (by omega) (by omega)).mono ?_
  rintro e w16 ⟨rfl, b⟩
  have zw16 := b.size
  replace bw := bw.trans (b.mono bw.size)
  replace ka0_0 := ((bcell b).1 _ _ (by omega)).trans ka0_0
  replace ka0_1 := ((bcell b).1 _ _ (by omega)).trans ka0_1
  replace kx0_0 := ((bcell b).1 _ _ (by omega)).trans kx0_0
  replace kx0_1 := ((bcell b).1 _ _ (by omega)).trans kx0_1
  replace HX0 := Bx.mk (HX0.out.below b (by omega))
  replace HW := Bx.mk (HW.out.below b (by omega))
  replace HC0 := Bx.mk (HC0.out.below b (by omega))
  replace HG := Bx.mk (HG.out.below b (by omega))
  replace HH := Bx.mk (HH.out.below b (by omega))
  clear b
  go_wp2_with fail
  go_ret
  exact ⟨rfl, bw⟩
end Go.Proofs.Ytbgfhbaaacmndaa
