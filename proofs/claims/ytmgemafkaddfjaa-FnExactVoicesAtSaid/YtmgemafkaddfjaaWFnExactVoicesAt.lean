/- The law on VoicesAt, walked. -/
import Derived.Test.YtmgemafkaddfjaaVo
import Derived.Test.YtmgemafkaddfjaaLawRh
import Derived.Test.YtmgemafkaddfjaaFinRh
import Derived.Test.YtmgemafkaddfjaaObjs
import Derived.Test.YtmgemafkaddfjaaBxB
import Derived.Test.YtmgemafkaddfjaaLawCn
import Derived.Test.YtmgemafkaddfjaaLawCn
import Derived.Test.YtmgemafkaddfjaaMarkCn
import Derived.Deep.RegionHeld3
import Derived.Deep.DeepCutAuto
namespace Go.Proofs.Ytmgemafkaddfjaa
open Go.RowKit

set_option maxHeartbeats 4000000 in
set_option maxRecDepth 20000 in
theorem walkFnExactVoicesAt (w : World) (s0a : Int) (hs0a : -9223372036854775808 ≤ s0a ∧ s0a ≤ 9223372036854775807) (A0a : Option Addr) (c0a : Nat) (xs0a : List Int) (ha0a : AR .i64 w A0a xs0a) (_hf0a : Fits xs0a) (s0b : Int) (hs0b : -9223372036854775808 ≤ s0b ∧ s0b ≤ 9223372036854775807) (A0b : Option Addr) (c0b : Nat) (xs0b : List Int) (ha0b : AR .i64 w A0b xs0b) (_hf0b : Fits xs0b) (d1 : Int) (_hd1 : -9223372036854775808 ≤ d1 ∧ d1 ≤ 9223372036854775807) :
    Calls Try.prog 4 #[.agg #[.int .i64 s0a, .slice A0a xs0a.length c0a, .int .i64 s0b, .slice A0b xs0b.length c0b], .int .i64 d1] w fun e w' => e = .returned (.bool true) ∧ Below w.heap.size w w' := by
  obtain ⟨W0, hW0⟩ : ∃ W0, W0 = (w.alloc (.cells #[.int .i64 s0a, .slice A0a xs0a.length c0a, .int .i64 s0b, .slice A0b xs0b.length c0b] 26)) := ⟨_, rfl⟩
  have bw : Below w.heap.size w W0 := by rw [hW0]; exact (Below.refl _ _).alloc (by simp <;> omega) _
  have zW0 : w.heap.size + 1 ≤ W0.heap.size := by rw [hW0]; simp
  have ka0_0 : W0.cell? ⟨w.heap.size, 0, none⟩ = some (.int .i64 s0a) := by rw [hW0]; simp [go_sem]
  have ka0_1 : W0.cell? ⟨w.heap.size, 1, none⟩ = some (.slice A0a xs0a.length c0a) := by rw [hW0]; simp [go_sem]
  have ka0_2 : W0.cell? ⟨w.heap.size, 2, none⟩ = some (.int .i64 s0b) := by rw [hW0]; simp [go_sem]
  have ka0_3 : W0.cell? ⟨w.heap.size, 3, none⟩ = some (.slice A0b xs0b.length c0b) := by rw [hW0]; simp [go_sem]
  have hml0a := ha0a.1
  have hml0b := ha0b.1
  by_cases h0 : (xs0a.length : Int) + (xs0b.length : Int) ≤ (1048576 : Int)
  rotate_left
  · have HN : Bx ((1048576 : Int) < (xs0a.length : Int) + (xs0b.length : Int)) := ⟨by omega⟩
    go_enter Try.func4, Try.ntmps4
    go_wp2_with fail
    rw [← hW0]
    clear hW0
    refine (szCanon_no _ _ _ _ _ _ _ _ hml0a hml0b _ (by omega) HN.out _).mono ?_
    rintro e w1 ⟨rfl, b⟩
    replace bw := bw.trans (b.mono bw.size)
    go_wp2_with fail
    go_ret
    exact ⟨rfl, bw⟩
  have HX0a := Bx.mk ((RB.of_ir (ha0a.ir (by omega))).below bw (Nat.le_refl _))
  have HS0a := Bx.mk hs0a
  clear ha0a hs0a
  have HX0b := Bx.mk ((RB.of_ir (ha0b.ir (by omega))).below bw (Nat.le_refl _))
  have HS0b := Bx.mk hs0b
  clear ha0b hs0b
  go_enter Try.func4, Try.ntmps4
  go_wp2_with fail
  rw [← hW0]
  clear hW0
  refine (szCanon_yes _ _ _ _ _ _ _ _ hml0a hml0b _ (by omega) h0 _).mono ?_
  rintro e w1 ⟨rfl, b⟩
  have zw1 := b.size
  replace bw := bw.trans (b.mono bw.size)
  replace ka0_0 := ((bcell b).1 _ _ (by omega)).trans ka0_0
  replace ka0_1 := ((bcell b).1 _ _ (by omega)).trans ka0_1
  replace ka0_2 := ((bcell b).1 _ _ (by omega)).trans ka0_2
  replace ka0_3 := ((bcell b).1 _ _ (by omega)).trans ka0_3
  replace HX0a := Bx.mk (HX0a.out.below b (by omega))
  replace HX0b := Bx.mk (HX0b.out.below b (by omega))
  clear b
  go_wp2_with fail
  refine (toCanon_any _ _ _ _ _ _ _ _ _ (by exact HX0a.out.ir) (by exact HX0b.out.ir)).mono ?_
  rintro e w2 ⟨w2A, w2c, w2A', w2c', w2m, rfl, w2hm, w2io, w2io', b⟩
  have Hw2_0a := Bx.mk w2io.ir
  clear w2io
  have Hw2_0b := Bx.mk w2io'.ir
  clear w2io'
  have zw2 := b.size
  replace bw := bw.trans (b.mono bw.size)
  replace ka0_0 := ((bcell b).1 _ _ (by omega)).trans ka0_0
  replace ka0_1 := ((bcell b).1 _ _ (by omega)).trans ka0_1
  replace ka0_2 := ((bcell b).1 _ _ (by omega)).trans ka0_2
  replace ka0_3 := ((bcell b).1 _ _ (by omega)).trans ka0_3
  replace HX0a := Bx.mk (HX0a.out.below b (by omega))
  replace HX0b := Bx.mk (HX0b.out.below b (by omega))
  clear b
  go_wp2_with fail
  refine (specVo_any _ _ _ _ _ _ _ _ _ _ HS0a.out HS0b.out (by exact Hw2_0a.out) (by exact Hw2_0b.out)).mono ?_
  rintro e w3 ⟨w3A, w3c, rfl, w3io, b⟩
  have zw3 := b.size
  replace bw := bw.trans (b.mono bw.size)
  replace ka0_0 := ((bcell b).1 _ _ (by omega)).trans ka0_0
  replace ka0_1 := ((bcell b).1 _ _ (by omega)).trans ka0_1
  replace ka0_2 := ((bcell b).1 _ _ (by omega)).trans ka0_2
  replace ka0_3 := ((bcell b).1 _ _ (by omega)).trans ka0_3
  replace HX0a := Bx.mk (HX0a.out.below b (by omega))
  replace HX0b := Bx.mk (HX0b.out.below b (by omega))
  clear b
  clear Hw2_0a Hw2_0b
  have HW := Bx.mk (OB.of (w3io.mono (by first | omega | (simp <;> omega) : w2.heap.size ≤ _)) (Nat.le_refl _))
  clear w3io
  go_wp2_with fail
  refine (toCanon_any _ _ _ _ _ _ _ _ _ (by exact HX0a.out.ir) (by exact HX0b.out.ir)).mono ?_
  rintro e w4 ⟨w4A, w4c, w4A', w4c', w4m, rfl, w4hm, w4io, w4io', b⟩
  have zw4 := b.size
  replace bw := bw.trans (b.mono bw.size)
  replace ka0_0 := ((bcell b).1 _ _ (by omega)).trans ka0_0
  replace ka0_1 := ((bcell b).1 _ _ (by omega)).trans ka0_1
  replace ka0_2 := ((bcell b).1 _ _ (by omega)).trans ka0_2
  replace ka0_3 := ((bcell b).1 _ _ (by omega)).trans ka0_3
  replace HX0a := Bx.mk (HX0a.out.below b (by omega))
  replace HX0b := Bx.mk (HX0b.out.below b (by omega))
  replace HW := Bx.mk (HW.out.below b (by omega))
  clear b
  obtain ⟨w4hl, w4hh⟩ := w4hm
  have HC0a := Bx.mk (w4io.mono0 (by first | omega | (simp <;> omega) : w3.heap.size ≤ _))
  clear w4io
  have HC0b := Bx.mk (w4io'.mono0 (by first | omega | (simp <;> omega) : w4m ≤ _))
  clear w4io'
  have ltw4_0 : w.heap.size < w4.heap.size := by omega
  go_wp2_with fail
  clear ltw4_0
  refine (implVo_any _ _ _ _ _ _ _ _ _ _ HS0a.out HS0b.out (by exact HC0a.out.ir.alloc _) (by exact HC0b.out.ir.alloc _)).mono ?_
  rintro e w5 ⟨w5A, w5c, rfl, w5io, b⟩
  have b' : Below w4.heap.size w4 w5 := (below_alloc _ _).trans (b.mono (by simp <;> omega))
  have kx0_0 : w5.cell? ⟨w4.heap.size, 0, none⟩ = some (.int .i64 s0a) := ((bcell b).1 _ _ (by simp <;> omega)).trans (by simp [go_sem])
  have kx0_1 : w5.cell? ⟨w4.heap.size, 1, none⟩ = some (.slice w4A xs0a.length w4c) := ((bcell b).1 _ _ (by simp <;> omega)).trans (by simp [go_sem])
  have kx0_2 : w5.cell? ⟨w4.heap.size, 2, none⟩ = some (.int .i64 s0b) := ((bcell b).1 _ _ (by simp <;> omega)).trans (by simp [go_sem])
  have kx0_3 : w5.cell? ⟨w4.heap.size, 3, none⟩ = some (.slice w4A' xs0b.length w4c') := ((bcell b).1 _ _ (by simp <;> omega)).trans (by simp [go_sem])
  have zw5 : w4.heap.size + 1 ≤ w5.heap.size := by have := b.size; simp at this; omega
  replace bw := bw.trans (b'.mono bw.size)
  replace ka0_0 := ((bcell b').1 _ _ (by omega)).trans ka0_0
  replace ka0_1 := ((bcell b').1 _ _ (by omega)).trans ka0_1
  replace ka0_2 := ((bcell b').1 _ _ (by omega)).trans ka0_2
  replace ka0_3 := ((bcell b').1 _ _ (by omega)).trans ka0_3
  replace HX0a := Bx.mk (HX0a.out.below b' (by omega))
  replace HX0b := Bx.mk (HX0b.out.below b' (by omega))
  replace HW := Bx.mk (HW.out.below b' (by omega))
  replace HC0a := Bx.mk (HC0a.out.below b' (by omega))
  replace HC0b := Bx.mk (HC0b.out.below b' (by omega))
  clear b b'
  have HG := Bx.mk (OB.of (w5io.mono (by first | omega | (simp <;> omega) : w4.heap.size + 1 ≤ _)) (Nat.le_refl _))
  clear w5io
  go_wp2_with fail
  refine (eqIntS_b _ _ _ _ _ _ _ (by exact HG.out.ir) (by exact HW.out.ir)).mono ?_
  rintro e w6 ⟨rfl, b⟩
  have zw6 := b.size
  replace bw := bw.trans (b.mono bw.size)
  replace ka0_0 := ((bcell b).1 _ _ (by omega)).trans ka0_0
  replace ka0_1 := ((bcell b).1 _ _ (by omega)).trans ka0_1
  replace ka0_2 := ((bcell b).1 _ _ (by omega)).trans ka0_2
  replace ka0_3 := ((bcell b).1 _ _ (by omega)).trans ka0_3
  replace kx0_0 := ((bcell b).1 _ _ (by omega)).trans kx0_0
  replace kx0_1 := ((bcell b).1 _ _ (by omega)).trans kx0_1
  replace kx0_2 := ((bcell b).1 _ _ (by omega)).trans kx0_2
  replace kx0_3 := ((bcell b).1 _ _ (by omega)).trans kx0_3
  replace HX0a := Bx.mk (HX0a.out.below b (by omega))
  replace HX0b := Bx.mk (HX0b.out.below b (by omega))
  replace HW := Bx.mk (HW.out.below b (by omega))
  replace HC0a := Bx.mk (HC0a.out.below b (by omega))
  replace HC0b := Bx.mk (HC0b.out.below b (by omega))
  replace HG := Bx.mk (HG.out.below b (by omega))
  clear b
  go_wp2_with fail
  have hB : Bx (Below w6.heap.size w6 w6.drew) := ⟨(Below.refl _ _).drew⟩
  have ka0_0_d : w6.drew.cell? _ = _ := ka0_0
  have ka0_1_d : w6.drew.cell? _ = _ := ka0_1
  have ka0_2_d : w6.drew.cell? _ = _ := ka0_2
  have ka0_3_d : w6.drew.cell? _ = _ := ka0_3
  have kx0_0_d : w6.drew.cell? _ = _ := kx0_0
  have kx0_1_d : w6.drew.cell? _ = _ := kx0_1
  have kx0_2_d : w6.drew.cell? _ = _ := kx0_2
  have kx0_3_d : w6.drew.cell? _ = _ := kx0_3
  go_region_held3 (fun w' => w'.cell? ⟨w.heap.size, 0, none⟩ = some (.int .i64 s0a) ∧ w'.cell? ⟨w.heap.size, 1, none⟩ = some (.slice A0a xs0a.length c0a) ∧ w'.cell? ⟨w.heap.size, 2, none⟩ = some (.int .i64 s0b) ∧ w'.cell? ⟨w.heap.size, 3, none⟩ = some (.slice A0b xs0b.length c0b) ∧ w'.cell? ⟨w4.heap.size, 0, none⟩ = some (.int .i64 s0a) ∧ w'.cell? ⟨w4.heap.size, 1, none⟩ = some (.slice w4A xs0a.length w4c) ∧ w'.cell? ⟨w4.heap.size, 2, none⟩ = some (.int .i64 s0b) ∧ w'.cell? ⟨w4.heap.size, 3, none⟩ = some (.slice w4A' xs0b.length w4c') ∧ Bx (Below w6.heap.size w6 w'))
    (exact ⟨by assumption, by assumption, by assumption, by assumption, by assumption, by assumption, by assumption, by assumption, by assumption⟩)
    (first
      | (go_at_call 17; refine (toCanon_any _ _ _ _ _ _ _ _ _ (by exact HX0a.out.ir.below (Bx.out (by assumption))) (by exact HX0b.out.ir.below (Bx.out (by assumption)))).mono ?_; rintro e w7 ⟨w7A, w7c, w7A', w7c', w7m, rfl, w7hm, w7io, w7io', bw7⟩; have hBw7 : Bx (Below w6.heap.size w6 w7) := ⟨Below.trans (Bx.out (by assumption)) (bw7.mono (by simp))⟩; have ka0_0_w7 := ((bcell hBw7.out).1 _ _ (by omega)).trans ka0_0; have ka0_1_w7 := ((bcell hBw7.out).1 _ _ (by omega)).trans ka0_1; have ka0_2_w7 := ((bcell hBw7.out).1 _ _ (by omega)).trans ka0_2; have ka0_3_w7 := ((bcell hBw7.out).1 _ _ (by omega)).trans ka0_3; have kx0_0_w7 := ((bcell hBw7.out).1 _ _ (by omega)).trans kx0_0; have kx0_1_w7 := ((bcell hBw7.out).1 _ _ (by omega)).trans kx0_1; have kx0_2_w7 := ((bcell hBw7.out).1 _ _ (by omega)).trans kx0_2; have kx0_3_w7 := ((bcell hBw7.out).1 _ _ (by omega)).trans kx0_3)
      | (go_at_call 19; refine (eqCanon_same _ _ _ _ _ _ _ _ _ _ _ _ _ (by exact HC0a.out.ir.below hBw7.out) (by exact HC0b.out.ir.below hBw7.out) (by exact w7io.ir) (by exact w7io'.ir)).mono ?_; rintro e w8 ⟨rfl, bw8⟩; have hBw8 : Bx (Below w6.heap.size w6 w8) := ⟨Below.trans hBw7.out (bw8.mono hBw7.out.size)⟩; have ka0_0_w8 := ((bcell hBw8.out).1 _ _ (by omega)).trans ka0_0; have ka0_1_w8 := ((bcell hBw8.out).1 _ _ (by omega)).trans ka0_1; have ka0_2_w8 := ((bcell hBw8.out).1 _ _ (by omega)).trans ka0_2; have ka0_3_w8 := ((bcell hBw8.out).1 _ _ (by omega)).trans ka0_3; have kx0_0_w8 := ((bcell hBw8.out).1 _ _ (by omega)).trans kx0_0; have kx0_1_w8 := ((bcell hBw8.out).1 _ _ (by omega)).trans kx0_1; have kx0_2_w8 := ((bcell hBw8.out).1 _ _ (by omega)).trans kx0_2; have kx0_3_w8 := ((bcell hBw8.out).1 _ _ (by omega)).trans kx0_3))
  have b := hBw8.out
  have zw8 := b.size
  replace bw := bw.trans (b.mono bw.size)
  replace ka0_0 := ((bcell b).1 _ _ (by omega)).trans ka0_0
  replace ka0_1 := ((bcell b).1 _ _ (by omega)).trans ka0_1
  replace ka0_2 := ((bcell b).1 _ _ (by omega)).trans ka0_2
  replace ka0_3 := ((bcell b).1 _ _ (by omega)).trans ka0_3
  replace kx0_0 := ((bcell b).1 _ _ (by omega)).trans kx0_0
  replace kx0_1 := ((bcell b).1 _ _ (by omega)).trans kx0_1
  replace kx0_2 := ((bcell b).1 _ _ (by omega)).trans kx0_2
  replace kx0_3 := ((bcell b).1 _ _ (by omega)).trans kx0_3
  replace HX0a := Bx.mk (HX0a.out.below b (by omega))
  replace HX0b := Bx.mk (HX0b.out.below b (by omega))
  replace HW := Bx.mk (HW.out.below b (by omega))
  replace HC0a := Bx.mk (HC0a.out.below b (by omega))
  replace HC0b := Bx.mk (HC0b.out.below b (by omega))
  replace HG := Bx.mk (HG.out.below b (by omega))
  clear b
  go_wp2_with fail
  refine (markCanon_any _ _ _ _ _ _ _ _ _ _ _ _ (by exact HC0a.out.io) (by exact HC0b.out.io) (fun x y hx hy => by have := HC0a.out.2 x hx; have := HC0b.out.1.ge y hy; omega) (by omega) (by omega)).mono ?_
  rintro e w10 ⟨w9, rfl, o, m, o', m'⟩
  have zw9 := o.size
  replace bw := bw.trans (HC0a.out.bl o (by omega) (by omega))
  replace ka0_0 := (HC0a.out.cell o (by omega) (by omega)).trans ka0_0
  replace ka0_1 := (HC0a.out.cell o (by omega) (by omega)).trans ka0_1
  replace ka0_2 := (HC0a.out.cell o (by omega) (by omega)).trans ka0_2
  replace ka0_3 := (HC0a.out.cell o (by omega) (by omega)).trans ka0_3
  replace kx0_0 := (HC0a.out.cell o (by omega) (by omega)).trans kx0_0
  replace kx0_1 := (HC0a.out.cell o (by omega) (by omega)).trans kx0_1
  replace kx0_2 := (HC0a.out.cell o (by omega) (by omega)).trans kx0_2
  replace kx0_3 := (HC0a.out.cell o (by omega) (by omega)).trans kx0_3
  replace HX0a := Bx.mk (HX0a.out.only o HC0a.out (by omega))
  replace HX0b := Bx.mk (HX0b.out.only o HC0a.out (by omega))
  replace HW := Bx.mk (HW.out.only o HC0a.out (by omega))
  replace HC0b := Bx.mk (HC0b.out.only o HC0a.out (by omega))
  replace HG := Bx.mk (HG.out.only o HC0a.out (by omega))
  replace HC0a := Bx.mk (HC0a.out.marked m)
  clear o m
  have o := o'
  have m := m'
  clear o' m'
  have zw10 := o.size
  replace bw := bw.trans (HC0b.out.bl o (by omega) (by omega))
  replace ka0_0 := (HC0b.out.cell o (by omega) (by omega)).trans ka0_0
  replace ka0_1 := (HC0b.out.cell o (by omega) (by omega)).trans ka0_1
  replace ka0_2 := (HC0b.out.cell o (by omega) (by omega)).trans ka0_2
  replace ka0_3 := (HC0b.out.cell o (by omega) (by omega)).trans ka0_3
  replace kx0_0 := (HC0b.out.cell o (by omega) (by omega)).trans kx0_0
  replace kx0_1 := (HC0b.out.cell o (by omega) (by omega)).trans kx0_1
  replace kx0_2 := (HC0b.out.cell o (by omega) (by omega)).trans kx0_2
  replace kx0_3 := (HC0b.out.cell o (by omega) (by omega)).trans kx0_3
  replace HX0a := Bx.mk (HX0a.out.only o HC0b.out (by omega))
  replace HX0b := Bx.mk (HX0b.out.only o HC0b.out (by omega))
  replace HW := Bx.mk (HW.out.only o HC0b.out (by omega))
  replace HC0a := Bx.mk (HC0a.out.only o HC0b.out (by omega))
  replace HG := Bx.mk (HG.out.only o HC0b.out (by omega))
  replace HC0b := Bx.mk (HC0b.out.marked m)
  clear o m
  go_wp2_with fail
  refine (eqIntS_b _ _ _ _ _ _ _ (by exact HG.out.ir) (by exact HW.out.ir)).mono ?_
  rintro e w11 ⟨rfl, b⟩
  have zw11 := b.size
  replace bw := bw.trans (b.mono bw.size)
  replace ka0_0 := ((bcell b).1 _ _ (by omega)).trans ka0_0
  replace ka0_1 := ((bcell b).1 _ _ (by omega)).trans ka0_1
  replace ka0_2 := ((bcell b).1 _ _ (by omega)).trans ka0_2
  replace ka0_3 := ((bcell b).1 _ _ (by omega)).trans ka0_3
  replace kx0_0 := ((bcell b).1 _ _ (by omega)).trans kx0_0
  replace kx0_1 := ((bcell b).1 _ _ (by omega)).trans kx0_1
  replace kx0_2 := ((bcell b).1 _ _ (by omega)).trans kx0_2
  replace kx0_3 := ((bcell b).1 _ _ (by omega)).trans kx0_3
  replace HX0a := Bx.mk (HX0a.out.below b (by omega))
  replace HX0b := Bx.mk (HX0b.out.below b (by omega))
  replace HW := Bx.mk (HW.out.below b (by omega))
  replace HC0a := Bx.mk (HC0a.out.below b (by omega))
  replace HC0b := Bx.mk (HC0b.out.below b (by omega))
  replace HG := Bx.mk (HG.out.below b (by omega))
  clear b
  go_wp2_with fail
  refine (markIntS_any _ _ _ _ _ _ (by exact HG.out.io) (by omega) (by omega)).mono ?_
  rintro e w12 ⟨rfl, m, o⟩
  have zw12 := o.size
  replace bw := bw.trans (HG.out.bl o (by omega) (by omega))
  replace ka0_0 := (HG.out.cell o (by omega) (by omega)).trans ka0_0
  replace ka0_1 := (HG.out.cell o (by omega) (by omega)).trans ka0_1
  replace ka0_2 := (HG.out.cell o (by omega) (by omega)).trans ka0_2
  replace ka0_3 := (HG.out.cell o (by omega) (by omega)).trans ka0_3
  replace kx0_0 := (HG.out.cell o (by omega) (by omega)).trans kx0_0
  replace kx0_1 := (HG.out.cell o (by omega) (by omega)).trans kx0_1
  replace kx0_2 := (HG.out.cell o (by omega) (by omega)).trans kx0_2
  replace kx0_3 := (HG.out.cell o (by omega) (by omega)).trans kx0_3
  replace HX0a := Bx.mk (HX0a.out.only o HG.out (by omega))
  replace HX0b := Bx.mk (HX0b.out.only o HG.out (by omega))
  replace HW := Bx.mk (HW.out.only o HG.out (by omega))
  replace HC0a := Bx.mk (HC0a.out.only o HG.out (by omega))
  replace HC0b := Bx.mk (HC0b.out.only o HG.out (by omega))
  replace HG := Bx.mk (HG.out.marked m)
  clear o m
  go_wp2_with fail
  refine (heldIntS_b _ _ _ _ _ (by exact HG.out.ir) (by omega) (by omega)).mono ?_
  rintro e w13 ⟨rfl, b⟩
  have zw13 := b.size
  replace bw := bw.trans (b.mono bw.size)
  replace ka0_0 := ((bcell b).1 _ _ (by omega)).trans ka0_0
  replace ka0_1 := ((bcell b).1 _ _ (by omega)).trans ka0_1
  replace ka0_2 := ((bcell b).1 _ _ (by omega)).trans ka0_2
  replace ka0_3 := ((bcell b).1 _ _ (by omega)).trans ka0_3
  replace kx0_0 := ((bcell b).1 _ _ (by omega)).trans kx0_0
  replace kx0_1 := ((bcell b).1 _ _ (by omega)).trans kx0_1
  replace kx0_2 := ((bcell b).1 _ _ (by omega)).trans kx0_2
  replace kx0_3 := ((bcell b).1 _ _ (by omega)).trans kx0_3
  replace HX0a := Bx.mk (HX0a.out.below b (by omega))
  replace HX0b := Bx.mk (HX0b.out.below b (by omega))
  replace HW := Bx.mk (HW.out.below b (by omega))
  replace HC0a := Bx.mk (HC0a.out.below b (by omega))
  replace HC0b := Bx.mk (HC0b.out.below b (by omega))
  replace HG := Bx.mk (HG.out.below b (by omega))
  clear b
  go_wp2_with fail
  refine (toCanon_any _ _ _ _ _ _ _ _ _ (by exact HX0a.out.ir) (by exact HX0b.out.ir)).mono ?_
  rintro e w14 ⟨w14A, w14c, w14A', w14c', w14m, rfl, w14hm, w14io, w14io', b⟩
  have Hw14_0a := Bx.mk w14io.ir
  clear w14io
  have Hw14_0b := Bx.mk w14io'.ir
  clear w14io'
  have zw14 := b.size
  replace bw := bw.trans (b.mono bw.size)
  replace ka0_0 := ((bcell b).1 _ _ (by omega)).trans ka0_0
  replace ka0_1 := ((bcell b).1 _ _ (by omega)).trans ka0_1
  replace ka0_2 := ((bcell b).1 _ _ (by omega)).trans ka0_2
  replace ka0_3 := ((bcell b).1 _ _ (by omega)).trans ka0_3
  replace kx0_0 := ((bcell b).1 _ _ (by omega)).trans kx0_0
  replace kx0_1 := ((bcell b).1 _ _ (by omega)).trans kx0_1
  replace kx0_2 := ((bcell b).1 _ _ (by omega)).trans kx0_2
  replace kx0_3 := ((bcell b).1 _ _ (by omega)).trans kx0_3
  replace HX0a := Bx.mk (HX0a.out.below b (by omega))
  replace HX0b := Bx.mk (HX0b.out.below b (by omega))
  replace HW := Bx.mk (HW.out.below b (by omega))
  replace HC0a := Bx.mk (HC0a.out.below b (by omega))
  replace HC0b := Bx.mk (HC0b.out.below b (by omega))
  replace HG := Bx.mk (HG.out.below b (by omega))
  clear b
  go_wp2_with fail
  refine (implVo_any _ _ _ _ _ _ _ _ _ _ HS0a.out HS0b.out (by exact Hw14_0a.out) (by exact Hw14_0b.out)).mono ?_
  rintro e w15 ⟨w15A, w15c, rfl, w15io, b⟩
  have zw15 := b.size
  replace bw := bw.trans (b.mono bw.size)
  replace ka0_0 := ((bcell b).1 _ _ (by omega)).trans ka0_0
  replace ka0_1 := ((bcell b).1 _ _ (by omega)).trans ka0_1
  replace ka0_2 := ((bcell b).1 _ _ (by omega)).trans ka0_2
  replace ka0_3 := ((bcell b).1 _ _ (by omega)).trans ka0_3
  replace kx0_0 := ((bcell b).1 _ _ (by omega)).trans kx0_0
  replace kx0_1 := ((bcell b).1 _ _ (by omega)).trans kx0_1
  replace kx0_2 := ((bcell b).1 _ _ (by omega)).trans kx0_2
  replace kx0_3 := ((bcell b).1 _ _ (by omega)).trans kx0_3
  replace HX0a := Bx.mk (HX0a.out.below b (by omega))
  replace HX0b := Bx.mk (HX0b.out.below b (by omega))
  replace HW := Bx.mk (HW.out.below b (by omega))
  replace HC0a := Bx.mk (HC0a.out.below b (by omega))
  replace HC0b := Bx.mk (HC0b.out.below b (by omega))
  replace HG := Bx.mk (HG.out.below b (by omega))
  clear b
  clear Hw14_0a Hw14_0b
  have HH := Bx.mk (OB.of (w15io.mono (by first | omega | (simp <;> omega) : w14.heap.size ≤ _)) (Nat.le_refl _))
  clear w15io
  go_wp2_with fail
  refine (eqIntS_b _ _ _ _ _ _ _ (by exact HH.out.ir) (by exact HW.out.ir)).mono ?_
  rintro e w16 ⟨rfl, b⟩
  have zw16 := b.size
  replace bw := bw.trans (b.mono bw.size)
  replace ka0_0 := ((bcell b).1 _ _ (by omega)).trans ka0_0
  replace ka0_1 := ((bcell b).1 _ _ (by omega)).trans ka0_1
  replace ka0_2 := ((bcell b).1 _ _ (by omega)).trans ka0_2
  replace ka0_3 := ((bcell b).1 _ _ (by omega)).trans ka0_3
  replace kx0_0 := ((bcell b).1 _ _ (by omega)).trans kx0_0
  replace kx0_1 := ((bcell b).1 _ _ (by omega)).trans kx0_1
  replace kx0_2 := ((bcell b).1 _ _ (by omega)).trans kx0_2
  replace kx0_3 := ((bcell b).1 _ _ (by omega)).trans kx0_3
  replace HX0a := Bx.mk (HX0a.out.below b (by omega))
  replace HX0b := Bx.mk (HX0b.out.below b (by omega))
  replace HW := Bx.mk (HW.out.below b (by omega))
  replace HC0a := Bx.mk (HC0a.out.below b (by omega))
  replace HC0b := Bx.mk (HC0b.out.below b (by omega))
  replace HG := Bx.mk (HG.out.below b (by omega))
  replace HH := Bx.mk (HH.out.below b (by omega))
  clear b
  go_wp2_with fail
  refine (heldIntS_b _ _ _ _ _ (by exact HG.out.ir) (by omega) (by omega)).mono ?_
  rintro e w17 ⟨rfl, b⟩
  have zw17 := b.size
  replace bw := bw.trans (b.mono bw.size)
  replace ka0_0 := ((bcell b).1 _ _ (by omega)).trans ka0_0
  replace ka0_1 := ((bcell b).1 _ _ (by omega)).trans ka0_1
  replace ka0_2 := ((bcell b).1 _ _ (by omega)).trans ka0_2
  replace ka0_3 := ((bcell b).1 _ _ (by omega)).trans ka0_3
  replace kx0_0 := ((bcell b).1 _ _ (by omega)).trans kx0_0
  replace kx0_1 := ((bcell b).1 _ _ (by omega)).trans kx0_1
  replace kx0_2 := ((bcell b).1 _ _ (by omega)).trans kx0_2
  replace kx0_3 := ((bcell b).1 _ _ (by omega)).trans kx0_3
  replace HX0a := Bx.mk (HX0a.out.below b (by omega))
  replace HX0b := Bx.mk (HX0b.out.below b (by omega))
  replace HW := Bx.mk (HW.out.below b (by omega))
  replace HC0a := Bx.mk (HC0a.out.below b (by omega))
  replace HC0b := Bx.mk (HC0b.out.below b (by omega))
  replace HG := Bx.mk (HG.out.below b (by omega))
  replace HH := Bx.mk (HH.out.below b (by omega))
  clear b
  go_wp2_with fail
  go_ret
  exact ⟨rfl, bw⟩
end Go.Proofs.Ytmgemafkaddfjaa
