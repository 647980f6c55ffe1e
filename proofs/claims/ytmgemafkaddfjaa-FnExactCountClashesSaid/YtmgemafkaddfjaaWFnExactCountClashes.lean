/- The law on CountClashes, walked. -/
import Derived.Test.YtmgemafkaddfjaaCl
import Derived.Test.YtmgemafkaddfjaaLawRh
import Derived.Test.YtmgemafkaddfjaaFinRh
import Derived.Test.YtmgemafkaddfjaaObjs
import Derived.Test.YtmgemafkaddfjaaBxB
import Derived.Test.YtmgemafkaddfjaaLawCn
import Derived.Test.YtmgemafkaddfjaaLawCn
import Derived.Deep.RegionHeld3
import Derived.Deep.DeepCutAuto
namespace Go.Proofs.Ytmgemafkaddfjaa
open Go.RowKit

set_option maxHeartbeats 4000000 in
set_option maxRecDepth 20000 in
theorem walkFnExactCountClashes (w : World) (s0a : Int) (hs0a : -9223372036854775808 ≤ s0a ∧ s0a ≤ 9223372036854775807) (A0a : Option Addr) (c0a : Nat) (xs0a : List Int) (ha0a : AR .i64 w A0a xs0a) (_hf0a : Fits xs0a) (s0b : Int) (hs0b : -9223372036854775808 ≤ s0b ∧ s0b ≤ 9223372036854775807) (A0b : Option Addr) (c0b : Nat) (xs0b : List Int) (ha0b : AR .i64 w A0b xs0b) (_hf0b : Fits xs0b) :
    Calls Try.prog 3 #[.agg #[.int .i64 s0a, .slice A0a xs0a.length c0a, .int .i64 s0b, .slice A0b xs0b.length c0b]] w fun e w' => e = .returned (.bool true) ∧ Below w.heap.size w w' := by
  obtain ⟨W0, hW0⟩ : ∃ W0, W0 = (w.alloc (.cells #[.int .i64 s0a, .slice A0a xs0a.length c0a, .int .i64 s0b, .slice A0b xs0b.length c0b] 26)) := ⟨_, rfl⟩
  have bw : Below w.heap.size w W0 := by rw [hW0]; exact (Below.refl _ _).alloc (by simp <;> omega) _
  have zW0 : w.heap.size + 1 ≤ W0.heap.size := by rw [hW0]; simp
  have ka0_0 : W0.cell? ⟨w.heap.size, 0, none⟩ = some (.int .i64 s0a) := by rw [hW0]; simp [go_sem]
  have ka0_1 : W0.cell? ⟨w.heap.size, 1, none⟩ = some (.slice A0a xs0a.length c0a) := by rw [hW0]; simp [go_sem]
  have ka0_2 : W0.cell? ⟨w.heap.size, 2, none⟩ = some (.int .i64 s0b) := by rw [hW0]; simp [go_sem]
  have ka0_3 : W0.cell? ⟨w.heap.size, 3, none⟩ = some (.slice A0b xs0b.length c0b) := by rw [hW0]; simp [go_sem]
  have hml0a := ha0a.1
  have hml0b := ha0b.1
  by_cases h0 : (xs0a.length : Int) + (xs0b.length : Int) ≤ (1048576 : Int)
  rotate_left
  · have HN : Bx ((1048576 : Int) < (xs0a.length : Int) + (xs0b.length : Int)) := ⟨by omega⟩
    go_enter Try.func3, Try.ntmps3
    go_wp2_with fail
    rw [← hW0]
    clear hW0
    refine (szCanon_no _ _ _ _ _ _ _ _ hml0a hml0b _ (by omega) HN.out _).mono ?_
    rintro e w1 ⟨rfl, b⟩
    replace bw := bw.trans (b.mono bw.size)
    go_wp2_with fail
    go_ret
    exact ⟨rfl, bw⟩
  have HX0a := Bx.mk ((RB.of_ir (ha0a.ir (by omega))).below bw (Nat.le_refl _))
  have HS0a := Bx.mk hs0a
  clear ha0a hs0a
  have HX0b := Bx.mk ((RB.of_ir (ha0b.ir (by omega))).below bw (Nat.le_refl _))
  have HS0b := Bx.mk hs0b
  clear ha0b hs0b
  go_enter Try.func3, Try.ntmps3
  go_wp2_with fail
  rw [← hW0]
  clear hW0
  refine (szCanon_yes _ _ _ _ _ _ _ _ hml0a hml0b _ (by omega) h0 _).mono ?_
  rintro e w1 ⟨rfl, b⟩
  have zw1 := b.size
  replace bw := bw.trans (b.mono bw.size)
  replace ka0_0 := ((bcell b).1 _ _ (by omega)).trans ka0_0
  replace ka0_1 := ((bcell b).1 _ _ (by omega)).trans ka0_1
  replace ka0_2 := ((bcell b).1 _ _ (by omega)).trans ka0_2
  replace ka0_3 := ((bcell b).1 _ _ (by omega)).trans ka0_3
  replace HX0a := Bx.mk (HX0a.out.below b (by omega))
  replace HX0b := Bx.mk (HX0b.out.below b (by omega))
  clear b
  go_wp2_with fail
  refine (toCanon_any _ _ _ _ _ _ _ _ _ (by exact HX0a.out.ir) (by exact HX0b.out.ir)).mono ?_
  rintro e w2 ⟨w2A, w2c, w2A', w2c', w2m, rfl, w2hm, w2io, w2io', b⟩
  have Hw2_0a := Bx.mk w2io.ir
  clear w2io
  have Hw2_0b := Bx.mk w2io'.ir
  clear w2io'
  have zw2 := b.size
  replace bw := bw.trans (b.mono bw.size)
  replace ka0_0 := ((bcell b).1 _ _ (by omega)).trans ka0_0
  replace ka0_1 := ((bcell b).1 _ _ (by omega)).trans ka0_1
  replace ka0_2 := ((bcell b).1 _ _ (by omega)).trans ka0_2
  replace ka0_3 := ((bcell b).1 _ _ (by omega)).trans ka0_3
  replace HX0a := Bx.mk (HX0a.out.below b (by omega))
  replace HX0b := Bx.mk (HX0b.out.below b (by omega))
  clear b
  go_wp2_with fail
  refine (specCl_any _ _ _ _ _ _ _ _ _ HS0a.out HS0b.out (by exact Hw2_0a.out) (by exact Hw2_0b.out)).mono ?_
  rintro e w3 ⟨rfl, b⟩
  have zw3 := b.size
  replace bw := bw.trans (b.mono bw.size)
  replace ka0_0 := ((bcell b).1 _ _ (by omega)).trans ka0_0
  replace ka0_1 := ((bcell b).1 _ _ (by omega)).trans ka0_1
  replace ka0_2 := ((bcell b).1 _ _ (by omega)).trans ka0_2
  replace ka0_3 := ((bcell b).1 _ _ (by omega)).trans ka0_3
  replace HX0a := Bx.mk (HX0a.out.below b (by omega))
  replace HX0b := Bx.mk (HX0b.out.below b (by omega))
  clear b
  clear Hw2_0a Hw2_0b
  go_wp2_with fail
  refine (toCanon_any _ _ _ _ _ _ _ _ _ (by exact HX0a.out.ir) (by exact HX0b.out.ir)).mono ?_
  rintro e w4 ⟨w4A, w4c, w4A', w4c', w4m, rfl, w4hm, w4io, w4io', b⟩
  have zw4 := b.size
  replace bw := bw.trans (b.mono bw.size)
  replace ka0_0 := ((bcell b).1 _ _ (by omega)).trans ka0_0
  replace ka0_1 := ((bcell b).1 _ _ (by omega)).trans ka0_1
  replace ka0_2 := ((bcell b).1 _ _ (by omega)).trans ka0_2
  replace ka0_3 := ((bcell b).1 _ _ (by omega)).trans ka0_3
  replace HX0a := Bx.mk (HX0a.out.below b (by omega))
  replace HX0b := Bx.mk (HX0b.out.below b (by omega))
  clear b
  obtain ⟨w4hl, w4hh⟩ := w4hm
  have HC0a := Bx.mk (w4io.mono0 (by first | omega | (simp <;> omega) : w3.heap.size ≤ _))
  clear w4io
  have HC0b := Bx.mk (w4io'.mono0 (by first | omega | (simp <;> omega) : w4m ≤ _))
  clear w4io'
  have ltw4_0 : w.heap.size < w4.heap.size := by omega
  go_wp2_with fail
  clear ltw4_0
  refine (implCl_any _ _ _ _ _ _ _ _ _ HS0a.out HS0b.out (by exact HC0a.out.ir.alloc _) (by exact HC0b.out.ir.alloc _)).mono ?_
  rintro e w5 ⟨rfl, b⟩
  have b' : Below w4.heap.size w4 w5 := (below_alloc _ _).trans (b.mono (by simp <;> omega))
  have kx0_0 : w5.cell? ⟨w4.heap.size, 0, none⟩ = some (.int .i64 s0a) := ((bcell b).1 _ _ (by simp <;> omega)).trans (by simp [go_sem])
  have kx0_1 : w5.cell? ⟨w4.heap.size, 1, none⟩ = some (.slice w4A xs0a.length w4c) := ((bcell b).1 _ _ (by simp <;> omega)).trans (by simp [go_sem])
  have kx0_2 : w5.cell? ⟨w4.heap.size, 2, none⟩ = some (.int .i64 s0b) := ((bcell b).1 _ _ (by simp <;> omega)).trans (by simp [go_sem])
  have kx0_3 : w5.cell? ⟨w4.heap.size, 3, none⟩ = some (.slice w4A' xs0b.length w4c') := ((bcell b).1 _ _ (by simp <;> omega)).trans (by simp [go_sem])
  have zw5 : w4.heap.size + 1 ≤ w5.heap.size := by have := b.size; simp at this; omega
  replace bw := bw.trans (b'.mono bw.size)
  replace ka0_0 := ((bcell b').1 _ _ (by omega)).trans ka0_0
  replace ka0_1 := ((bcell b').1 _ _ (by omega)).trans ka0_1
  replace ka0_2 := ((bcell b').1 _ _ (by omega)).trans ka0_2
  replace ka0_3 := ((bcell b').1 _ _ (by omega)).trans ka0_3
  replace HX0a := Bx.mk (HX0a.out.below b' (by omega))
  replace HX0b := Bx.mk (HX0b.out.below b' (by omega))
  replace HC0a := Bx.mk (HC0a.out.below b' (by omega))
  replace HC0b := Bx.mk (HC0b.out.below b' (by omega))
  clear b b'
  go_wp2_with fail
  have hB : Bx (Below w5.heap.size w5 w5.drew) := ⟨(Below.refl _ _).drew⟩
  have ka0_0_d : w5.drew.cell? _ = _ := ka0_0
  have ka0_1_d : w5.drew.cell? _ = _ := ka0_1
  have ka0_2_d : w5.drew.cell? _ = _ := ka0_2
  have ka0_3_d : w5.drew.cell? _ = _ := ka0_3
  have kx0_0_d : w5.drew.cell? _ = _ := kx0_0
  have kx0_1_d : w5.drew.cell? _ = _ := kx0_1
  have kx0_2_d : w5.drew.cell? _ = _ := kx0_2
  have kx0_3_d : w5.drew.cell? _ = _ := kx0_3
  go_region_held3 (fun w' => w'.cell? ⟨w.heap.size, 0, none⟩ = some (.int .i64 s0a) ∧ w'.cell? ⟨w.heap.size, 1, none⟩ = some (.slice A0a xs0a.length c0a) ∧ w'.cell? ⟨w.heap.size, 2, none⟩ = some (.int .i64 s0b) ∧ w'.cell? ⟨w.heap.size, 3, none⟩ = some (.slice A0b xs0b.length c0b) ∧ w'.cell? ⟨w4.heap.size, 0, none⟩ = some (.int .i64 s0a) ∧ w'.cell? ⟨w4.heap.size, 1, none⟩ = some (.slice w4A xs0a.length w4c) ∧ w'.cell? ⟨w4.heap.size, 2, none⟩ = some (.int .i64 s0b) ∧ w'.cell? ⟨w4.heap.size, 3, none⟩ = some (.slice w4A' xs0b.length w4c') ∧ Bx (Below w5.heap.size w5 w'))
    (exact ⟨by assumption, by assumption, by assumption, by assumption, by assumption, by assumption, by assumption, by assumption, by assumption⟩)
    (first
      | (go_at_call 17; refine (toCanon_any _ _ _ _ _ _ _ _ _ (by exact HX0a.out.ir.below (Bx.out (by assumption))) (by exact HX0b.out.ir.below (Bx.out (by assumption)))).mono ?_; rintro e w6 ⟨w6A, w6c, w6A', w6c', w6m, rfl, w6hm, w6io, w6io', bw6⟩; have hBw6 : Bx (Below w5.heap.size w5 w6) := ⟨Below.trans (Bx.out (by assumption)) (bw6.mono (by simp))⟩; have ka0_0_w6 := ((bcell hBw6.out).1 _ _ (by omega)).trans ka0_0; have ka0_1_w6 := ((bcell hBw6.out).1 _ _ (by omega)).trans ka0_1; have ka0_2_w6 := ((bcell hBw6.out).1 _ _ (by omega)).trans ka0_2; have ka0_3_w6 := ((bcell hBw6.out).1 _ _ (by omega)).trans ka0_3; have kx0_0_w6 := ((bcell hBw6.out).1 _ _ (by omega)).trans kx0_0; have kx0_1_w6 := ((bcell hBw6.out).1 _ _ (by omega)).trans kx0_1; have kx0_2_w6 := ((bcell hBw6.out).1 _ _ (by omega)).trans kx0_2; have kx0_3_w6 := ((bcell hBw6.out).1 _ _ (by omega)).trans kx0_3)
      | (go_at_call 19; refine (eqCanon_same _ _ _ _ _ _ _ _ _ _ _ _ _ (by exact HC0a.out.ir.below hBw6.out) (by exact HC0b.out.ir.below hBw6.out) (by exact w6io.ir) (by exact w6io'.ir)).mono ?_; rintro e w7 ⟨rfl, bw7⟩; have hBw7 : Bx (Below w5.heap.size w5 w7) := ⟨Below.trans hBw6.out (bw7.mono hBw6.out.size)⟩; have ka0_0_w7 := ((bcell hBw7.out).1 _ _ (by omega)).trans ka0_0; have ka0_1_w7 := ((bcell hBw7.out).1 _ _ (by omega)).trans ka0_1; have ka0_2_w7 := ((bcell hBw7.out).1 _ _ (by omega)).trans ka0_2; have ka0_3_w7 := ((bcell hBw7.out).1 _ _ (by omega)).trans ka0_3; have kx0_0_w7 := ((bcell hBw7.out).1 _ _ (by omega)).trans kx0_0; have kx0_1_w7 := ((bcell hBw7.out).1 _ _ (by omega)).trans kx0_1; have kx0_2_w7 := ((bcell hBw7.out).1 _ _ (by omega)).trans kx0_2; have kx0_3_w7 := ((bcell hBw7.out).1 _ _ (by omega)).trans kx0_3))
  have b := hBw7.out
  have zw7 := b.size
  replace bw := bw.trans (b.mono bw.size)
  replace ka0_0 := ((bcell b).1 _ _ (by omega)).trans ka0_0
  replace ka0_1 := ((bcell b).1 _ _ (by omega)).trans ka0_1
  replace ka0_2 := ((bcell b).1 _ _ (by omega)).trans ka0_2
  replace ka0_3 := ((bcell b).1 _ _ (by omega)).trans ka0_3
  replace kx0_0 := ((bcell b).1 _ _ (by omega)).trans kx0_0
  replace kx0_1 := ((bcell b).1 _ _ (by omega)).trans kx0_1
  replace kx0_2 := ((bcell b).1 _ _ (by omega)).trans kx0_2
  replace kx0_3 := ((bcell b).1 _ _ (by omega)).trans kx0_3
  replace HX0a := Bx.mk (HX0a.out.below b (by omega))
  replace HX0b := Bx.mk (HX0b.out.below b (by omega))
  replace HC0a := Bx.mk (HC0a.out.below b (by omega))
  replace HC0b := Bx.mk (HC0b.out.below b (by omega))
  clear b
  go_wp2_with fail
  go_ret
  exact ⟨rfl, bw⟩
end Go.Proofs.Ytmgemafkaddfjaa
