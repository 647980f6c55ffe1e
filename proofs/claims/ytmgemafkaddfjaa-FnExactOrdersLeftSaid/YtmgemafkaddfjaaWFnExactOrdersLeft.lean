/- The law on OrdersLeft, walked. -/
import Derived.Test.YtmgemafkaddfjaaLeft
import Derived.Test.YtmgemafkaddfjaaLawRh
import Derived.Test.YtmgemafkaddfjaaFinRh
import Derived.Test.YtmgemafkaddfjaaObjs
import Derived.Test.YtmgemafkaddfjaaBxB
import Derived.Test.YtmgemafkaddfjaaLawCn
import Derived.Deep.RegionHeld3
import Derived.Deep.DeepCutAuto
namespace Go.Proofs.Ytmgemafkaddfjaa
open Go.RowKit

set_option maxHeartbeats 4000000 in
set_option maxRecDepth 20000 in
theorem walkFnExactOrdersLeft (w : World) (s0 : Int) (hs0 : -9223372036854775808 ≤ s0 ∧ s0 ≤ 9223372036854775807) (A0 : Option Addr) (c0 : Nat) (xs0 : List Int) (ha0 : AR .i64 w A0 xs0) (_hf0 : Fits xs0) (s1 : Int) (hs1 : -9223372036854775808 ≤ s1 ∧ s1 ≤ 9223372036854775807) (A1 : Option Addr) (c1 : Nat) (xs1 : List Int) (ha1 : AR .i64 w A1 xs1) (_hf1 : Fits xs1) :
    Calls Try.prog 12 #[.agg #[.int .i64 s0, .slice A0 xs0.length c0], .agg #[.int .i64 s1, .slice A1 xs1.length c1]] w fun e w' => e = .returned (.bool true) ∧ Below w.heap.size w w' := by
  obtain ⟨W0, hW0⟩ : ∃ W0, W0 = ((w.alloc (.cells #[.int .i64 s0, .slice A0 xs0.length c0] 24)).alloc (.cells #[.int .i64 s1, .slice A1 xs1.length c1] 24)) := ⟨_, rfl⟩
  have bw : Below w.heap.size w W0 := by rw [hW0]; exact ((Below.refl _ _).alloc (by simp <;> omega) _).alloc (by simp <;> omega) _
  have zW0 : w.heap.size + 2 ≤ W0.heap.size := by rw [hW0]; simp
  have ka0_0 : W0.cell? ⟨w.heap.size, 0, none⟩ = some (.int .i64 s0) := by rw [hW0]; simp [go_sem]
  have ka0_1 : W0.cell? ⟨w.heap.size, 1, none⟩ = some (.slice A0 xs0.length c0) := by rw [hW0]; simp [go_sem]
  have ka1_0 : W0.cell? ⟨w.heap.size + 1, 0, none⟩ = some (.int .i64 s1) := by rw [hW0]; simp [go_sem]
  have ka1_1 : W0.cell? ⟨w.heap.size + 1, 1, none⟩ = some (.slice A1 xs1.length c1) := by rw [hW0]; simp [go_sem]
  have hml0 := ha0.1
  have hml1 := ha1.1
  by_cases h0 : (xs0.length : Int) ≤ (1048576 : Int)
  rotate_left
  · have HN : Bx ((1048576 : Int) < (xs0.length : Int)) := ⟨by omega⟩
    go_enter Try.func12, Try.ntmps12
    go_wp2_with fail
    rw [← hW0]
    clear hW0
    refine (szRhythm_no _ _ _ _ hml0 _ (by omega) HN.out _).mono ?_
    rintro e w1 ⟨rfl, b⟩
    replace bw := bw.trans (b.mono bw.size)
    go_wp2_with fail
    go_ret
    exact ⟨rfl, bw⟩
  by_cases h1 : (xs1.length : Int) ≤ (1048576 - (xs0.length : Int))
  rotate_left
  · have HN : Bx ((1048576 - (xs0.length : Int)) < (xs1.length : Int)) := ⟨by omega⟩
    go_enter Try.func12, Try.ntmps12
    go_wp2_with fail
    rw [← hW0]
    clear hW0
    refine (szRhythm_yes _ _ _ _ hml0 _ (by omega) h0 _).mono ?_
    rintro e w1 ⟨rfl, b⟩
    have zw1 := b.size
    replace bw := bw.trans (b.mono bw.size)
    replace ka0_0 := ((bcell b).1 _ _ (by omega)).trans ka0_0
    replace ka0_1 := ((bcell b).1 _ _ (by omega)).trans ka0_1
    replace ka1_0 := ((bcell b).1 _ _ (by omega)).trans ka1_0
    replace ka1_1 := ((bcell b).1 _ _ (by omega)).trans ka1_1
    clear b
    go_wp2_with fail
    refine (szRhythm_no _ _ _ _ hml1 _ (by omega) HN.out _).mono ?_
    rintro e w2 ⟨rfl, b⟩
    replace bw := bw.trans (b.mono bw.size)
    go_wp2_with fail
    go_ret
    exact ⟨rfl, bw⟩
  have HX0 := Bx.mk ((RB.of_ir (ha0.ir (by omega))).below bw (Nat.le_refl _))
  have HS0 := Bx.mk hs0
  clear ha0 hs0
  have HX1 := Bx.mk ((RB.of_ir (ha1.ir (by omega))).below bw (Nat.le_refl _))
  have HS1 := Bx.mk hs1
  clear ha1 hs1
  go_enter Try.func12, Try.ntmps12
  go_wp2_with fail
  rw [← hW0]
  clear hW0
  refine (szRhythm_yes _ _ _ _ hml0 _ (by omega) h0 _).mono ?_
  rintro e w1 ⟨rfl, b⟩
  have zw1 := b.size
  replace bw := bw.trans (b.mono bw.size)
  replace ka0_0 := ((bcell b).1 _ _ (by omega)).trans ka0_0
  replace ka0_1 := ((bcell b).1 _ _ (by omega)).trans ka0_1
  replace ka1_0 := ((bcell b).1 _ _ (by omega)).trans ka1_0
  replace ka1_1 := ((bcell b).1 _ _ (by omega)).trans ka1_1
  replace HX0 := Bx.mk (HX0.out.below b (by omega))
  replace HX1 := Bx.mk (HX1.out.below b (by omega))
  clear b
  go_wp2_with fail
  refine (szRhythm_yes _ _ _ _ hml1 _ (by omega) h1 _).mono ?_
  rintro e w2 ⟨rfl, b⟩
  have zw2 := b.size
  replace bw := bw.trans (b.mono bw.size)
  replace ka0_0 := ((bcell b).1 _ _ (by omega)).trans ka0_0
  replace ka0_1 := ((bcell b).1 _ _ (by omega)).trans ka0_1
  replace ka1_0 := ((bcell b).1 _ _ (by omega)).trans ka1_0
  replace ka1_1 := ((bcell b).1 _ _ (by omega)).trans ka1_1
  replace HX0 := Bx.mk (HX0.out.below b (by omega))
  replace HX1 := Bx.mk (HX1.out.below b (by omega))
  clear b
  go_wp2_with fail
  have hB : Bx (Below w2.heap.size w2 w2.drew) := ⟨(Below.refl _ _).drew⟩
  have ka0_0_d : w2.drew.cell? _ = _ := ka0_0
  have ka0_1_d : w2.drew.cell? _ = _ := ka0_1
  have ka1_0_d : w2.drew.cell? _ = _ := ka1_0
  have ka1_1_d : w2.drew.cell? _ = _ := ka1_1
  go_region_held3 (fun w' => w'.cell? ⟨w.heap.size, 0, none⟩ = some (.int .i64 s0) ∧ w'.cell? ⟨w.heap.size, 1, none⟩ = some (.slice A0 xs0.length c0) ∧ w'.cell? ⟨w.heap.size + 1, 0, none⟩ = some (.int .i64 s1) ∧ w'.cell? ⟨w.heap.size + 1, 1, none⟩ = some (.slice A1 xs1.length c1) ∧ Bx (Below w2.heap.size w2 w'))
    (exact ⟨by assumption, by assumption, by assumption, by assumption, by assumption⟩)
    (first
      | (go_at_call_of 28 (c0); refine (toRhythm_any _ _ _ _ _ (by exact HX0.out.ir.below (Bx.out (by assumption)))).mono ?_; rintro e w3 ⟨w3A, w3c, rfl, w3io, bw3⟩; have hBw3 : Bx (Below w2.heap.size w2 w3) := ⟨Below.trans (Bx.out (by assumption)) (bw3.mono (by simp))⟩; have ka0_0_w3 := ((bcell hBw3.out).1 _ _ (by omega)).trans ka0_0; have ka0_1_w3 := ((bcell hBw3.out).1 _ _ (by omega)).trans ka0_1; have ka1_0_w3 := ((bcell hBw3.out).1 _ _ (by omega)).trans ka1_0; have ka1_1_w3 := ((bcell hBw3.out).1 _ _ (by omega)).trans ka1_1)
      | (go_at_call_of 28 (c1); refine (toRhythm_any _ _ _ _ _ (by exact HX1.out.ir.below hBw3.out)).mono ?_; rintro e w4 ⟨w4A, w4c, rfl, w4io, bw4⟩; have hBw4 : Bx (Below w2.heap.size w2 w4) := ⟨Below.trans hBw3.out (bw4.mono hBw3.out.size)⟩; have ka0_0_w4 := ((bcell hBw4.out).1 _ _ (by omega)).trans ka0_0; have ka0_1_w4 := ((bcell hBw4.out).1 _ _ (by omega)).trans ka0_1; have ka1_0_w4 := ((bcell hBw4.out).1 _ _ (by omega)).trans ka1_0; have ka1_1_w4 := ((bcell hBw4.out).1 _ _ (by omega)).trans ka1_1)
      | (go_at_call 46; refine (specLeft_any _ _ _ _ _ _ _ _ _ HS0.out HS1.out (by exact (w3io.reads).below bw4) (by exact w4io.reads)).mono ?_; rintro e w5 ⟨w5A, w5c, rfl, w5io, bw5⟩; have hBw5 : Bx (Below w2.heap.size w2 w5) := ⟨Below.trans hBw4.out (bw5.mono hBw4.out.size)⟩; have ka0_0_w5 := ((bcell hBw5.out).1 _ _ (by omega)).trans ka0_0; have ka0_1_w5 := ((bcell hBw5.out).1 _ _ (by omega)).trans ka0_1; have ka1_0_w5 := ((bcell hBw5.out).1 _ _ (by omega)).trans ka1_0; have ka1_1_w5 := ((bcell hBw5.out).1 _ _ (by omega)).trans ka1_1))
  have b := hBw5.out
  have zw5 := b.size
  replace bw := bw.trans (b.mono bw.size)
  replace ka0_0 := ((bcell b).1 _ _ (by omega)).trans ka0_0
  replace ka0_1 := ((bcell b).1 _ _ (by omega)).trans ka0_1
  replace ka1_0 := ((bcell b).1 _ _ (by omega)).trans ka1_0
  replace ka1_1 := ((bcell b).1 _ _ (by omega)).trans ka1_1
  replace HX0 := Bx.mk (HX0.out.below b (by omega))
  replace HX1 := Bx.mk (HX1.out.below b (by omega))
  clear b
  have zw3 : w2.heap.size ≤ w3.heap.size := bw3.size
  have zw4 : w3.heap.size ≤ w4.heap.size := bw4.size
  have HW := Bx.mk (OB.of (w5io.mono (by first | omega | (simp <;> omega) : w2.heap.size ≤ _)) (Nat.le_refl _))
  clear w5io
  go_wp2_with fail
  refine (toRhythm_any _ _ _ _ _ (by exact HX0.out.ir)).mono ?_
  rintro e w6 ⟨w6A, w6c, rfl, w6io, b⟩
  have zw6 := b.size
  replace bw := bw.trans (b.mono bw.size)
  replace ka0_0 := ((bcell b).1 _ _ (by omega)).trans ka0_0
  replace ka0_1 := ((bcell b).1 _ _ (by omega)).trans ka0_1
  replace ka1_0 := ((bcell b).1 _ _ (by omega)).trans ka1_0
  replace ka1_1 := ((bcell b).1 _ _ (by omega)).trans ka1_1
  replace HX0 := Bx.mk (HX0.out.below b (by omega))
  replace HX1 := Bx.mk (HX1.out.below b (by omega))
  replace HW := Bx.mk (HW.out.below b (by omega))
  clear b
  have HC0 := Bx.mk (OB.of (w6io.mono (by first | omega | (simp <;> omega) : w5.heap.size ≤ _)) (Nat.le_refl _))
  clear w6io
  have ltw6_0 : w.heap.size < w6.heap.size := by omega
  have ltw6_1 : w.heap.size + 1 < w6.heap.size := by omega
  go_wp2_with fail
  clear ltw6_0
  clear ltw6_1
  refine (toRhythm_any _ _ _ _ _ (by exact HX1.out.ir.alloc _)).mono ?_
  rintro e w7 ⟨w7A, w7c, rfl, w7io, b⟩
  have b' : Below w6.heap.size w6 w7 := (below_alloc _ _).trans (b.mono (by simp <;> omega))
  have kx0_0 : w7.cell? ⟨w6.heap.size, 0, none⟩ = some (.int .i64 s0) := ((bcell b).1 _ _ (by simp <;> omega)).trans (by simp [go_sem])
  have kx0_1 : w7.cell? ⟨w6.heap.size, 1, none⟩ = some (.slice w6A xs0.length w6c) := ((bcell b).1 _ _ (by simp <;> omega)).trans (by simp [go_sem])
  have zw7 : w6.heap.size + 1 ≤ w7.heap.size := by have := b.size; simp at this; omega
  replace bw := bw.trans (b'.mono bw.size)
  replace ka0_0 := ((bcell b').1 _ _ (by omega)).trans ka0_0
  replace ka0_1 := ((bcell b').1 _ _ (by omega)).trans ka0_1
  replace ka1_0 := ((bcell b').1 _ _ (by omega)).trans ka1_0
  replace ka1_1 := ((bcell b').1 _ _ (by omega)).trans ka1_1
  replace HX0 := Bx.mk (HX0.out.below b' (by omega))
  replace HX1 := Bx.mk (HX1.out.below b' (by omega))
  replace HW := Bx.mk (HW.out.below b' (by omega))
  replace HC0 := Bx.mk (HC0.out.below b' (by omega))
  clear b b'
  have HC1 := Bx.mk (OB.of (w7io.mono (by first | omega | (simp <;> omega) : w6.heap.size + 1 ≤ _)) (Nat.le_refl _))
  clear w7io
  have ltw7_0 : w.heap.size < w7.heap.size := by omega
  have ltw7_1 : w.heap.size + 1 < w7.heap.size := by omega
  have ltw7_2 : w6.heap.size < w7.heap.size := by omega
  go_wp2_with fail
  clear ltw7_0
  clear ltw7_1
  clear ltw7_2
  refine (implLeft_any _ _ _ _ _ _ _ _ _ HS0.out HS1.out (by exact HC0.out.ir.alloc _) (by exact HC1.out.ir.alloc _)).mono ?_
  rintro e w8 ⟨w8A, w8c, rfl, w8io, b⟩
  have b' : Below w7.heap.size w7 w8 := (below_alloc _ _).trans (b.mono (by simp <;> omega))
  have kx1_0 : w8.cell? ⟨w7.heap.size, 0, none⟩ = some (.int .i64 s1) := ((bcell b).1 _ _ (by simp <;> omega)).trans (by simp [go_sem])
  have kx1_1 : w8.cell? ⟨w7.heap.size, 1, none⟩ = some (.slice w7A xs1.length w7c) := ((bcell b).1 _ _ (by simp <;> omega)).trans (by simp [go_sem])
  have zw8 : w7.heap.size + 1 ≤ w8.heap.size := by have := b.size; simp at this; omega
  replace bw := bw.trans (b'.mono bw.size)
  replace ka0_0 := ((bcell b').1 _ _ (by omega)).trans ka0_0
  replace ka0_1 := ((bcell b').1 _ _ (by omega)).trans ka0_1
  replace ka1_0 := ((bcell b').1 _ _ (by omega)).trans ka1_0
  replace ka1_1 := ((bcell b').1 _ _ (by omega)).trans ka1_1
  replace kx0_0 := ((bcell b').1 _ _ (by omega)).trans kx0_0
  replace kx0_1 := ((bcell b').1 _ _ (by omega)).trans kx0_1
  replace HX0 := Bx.mk (HX0.out.below b' (by omega))
  replace HX1 := Bx.mk (HX1.out.below b' (by omega))
  replace HW := Bx.mk (HW.out.below b' (by omega))
  replace HC0 := Bx.mk (HC0.out.below b' (by omega))
  replace HC1 := Bx.mk (HC1.out.below b' (by omega))
  clear b b'
  have HG := Bx.mk (OB.of (w8io.mono (by first | omega | (simp <;> omega) : w7.heap.size + 1 ≤ _)) (Nat.le_refl _))
  clear w8io
  go_wp2_with fail
  refine (eqIntS_b _ _ _ _ _ _ _ (by exact HG.out.ir) (by exact HW.out.ir)).mono ?_
  rintro e w9 ⟨rfl, b⟩
  have zw9 := b.size
  replace bw := bw.trans (b.mono bw.size)
  replace ka0_0 := ((bcell b).1 _ _ (by omega)).trans ka0_0
  replace ka0_1 := ((bcell b).1 _ _ (by omega)).trans ka0_1
  replace ka1_0 := ((bcell b).1 _ _ (by omega)).trans ka1_0
  replace ka1_1 := ((bcell b).1 _ _ (by omega)).trans ka1_1
  replace kx0_0 := ((bcell b).1 _ _ (by omega)).trans kx0_0
  replace kx0_1 := ((bcell b).1 _ _ (by omega)).trans kx0_1
  replace kx1_0 := ((bcell b).1 _ _ (by omega)).trans kx1_0
  replace kx1_1 := ((bcell b).1 _ _ (by omega)).trans kx1_1
  replace HX0 := Bx.mk (HX0.out.below b (by omega))
  replace HX1 := Bx.mk (HX1.out.below b (by omega))
  replace HW := Bx.mk (HW.out.below b (by omega))
  replace HC0 := Bx.mk (HC0.out.below b (by omega))
  replace HC1 := Bx.mk (HC1.out.below b (by omega))
  replace HG := Bx.mk (HG.out.below b (by omega))
  clear b
  go_wp2_with fail
  have hB : Bx (Below w9.heap.size w9 w9.drew) := ⟨(Below.refl _ _).drew⟩
  have ka0_0_d : w9.drew.cell? _ = _ := ka0_0
  have ka0_1_d : w9.drew.cell? _ = _ := ka0_1
  have ka1_0_d : w9.drew.cell? _ = _ := ka1_0
  have ka1_1_d : w9.drew.cell? _ = _ := ka1_1
  have kx0_0_d : w9.drew.cell? _ = _ := kx0_0
  have kx0_1_d : w9.drew.cell? _ = _ := kx0_1
  have kx1_0_d : w9.drew.cell? _ = _ := kx1_0
  have kx1_1_d : w9.drew.cell? _ = _ := kx1_1
  go_region_held3 (fun w' => w'.cell? ⟨w.heap.size, 0, none⟩ = some (.int .i64 s0) ∧ w'.cell? ⟨w.heap.size, 1, none⟩ = some (.slice A0 xs0.length c0) ∧ w'.cell? ⟨w.heap.size + 1, 0, none⟩ = some (.int .i64 s1) ∧ w'.cell? ⟨w.heap.size + 1, 1, none⟩ = some (.slice A1 xs1.length c1) ∧ w'.cell? ⟨w6.heap.size, 0, none⟩ = some (.int .i64 s0) ∧ w'.cell? ⟨w6.heap.size, 1, none⟩ = some (.slice w6A xs0.length w6c) ∧ w'.cell? ⟨w7.heap.size, 0, none⟩ = some (.int .i64 s1) ∧ w'.cell? ⟨w7.heap.size, 1, none⟩ = some (.slice w7A xs1.length w7c) ∧ Bx (Below w9.heap.size w9 w'))
    (exact ⟨by assumption, by assumption, by assumption, by assumption, by assumption, by assumption, by assumption, by assumption, by assumption⟩)
    (first
      | (go_at_call 28; refine (toRhythm_any _ _ _ _ _ (by exact HX0.out.ir.below (Bx.out (by assumption)))).mono ?_; rintro e w10 ⟨w10A, w10c, rfl, w10io, bw10⟩; have hBw10 : Bx (Below w9.heap.size w9 w10) := ⟨Below.trans (Bx.out (by assumption)) (bw10.mono (by simp))⟩; have ka0_0_w10 := ((bcell hBw10.out).1 _ _ (by omega)).trans ka0_0; have ka0_1_w10 := ((bcell hBw10.out).1 _ _ (by omega)).trans ka0_1; have ka1_0_w10 := ((bcell hBw10.out).1 _ _ (by omega)).trans ka1_0; have ka1_1_w10 := ((bcell hBw10.out).1 _ _ (by omega)).trans ka1_1; have kx0_0_w10 := ((bcell hBw10.out).1 _ _ (by omega)).trans kx0_0; have kx0_1_w10 := ((bcell hBw10.out).1 _ _ (by omega)).trans kx0_1; have kx1_0_w10 := ((bcell hBw10.out).1 _ _ (by omega)).trans kx1_0; have kx1_1_w10 := ((bcell hBw10.out).1 _ _ (by omega)).trans kx1_1)
      | (go_at_call 30; refine (eqRhythm_any _ _ _ _ _ _ _ _ _ (by exact HC0.out.ir.below hBw10.out) (by exact w10io.reads)).mono ?_; rintro e w11 ⟨rfl, bw11⟩; have hBw11 : Bx (Below w9.heap.size w9 w11) := ⟨Below.trans hBw10.out (bw11.mono hBw10.out.size)⟩; have ka0_0_w11 := ((bcell hBw11.out).1 _ _ (by omega)).trans ka0_0; have ka0_1_w11 := ((bcell hBw11.out).1 _ _ (by omega)).trans ka0_1; have ka1_0_w11 := ((bcell hBw11.out).1 _ _ (by omega)).trans ka1_0; have ka1_1_w11 := ((bcell hBw11.out).1 _ _ (by omega)).trans ka1_1; have kx0_0_w11 := ((bcell hBw11.out).1 _ _ (by omega)).trans kx0_0; have kx0_1_w11 := ((bcell hBw11.out).1 _ _ (by omega)).trans kx0_1; have kx1_0_w11 := ((bcell hBw11.out).1 _ _ (by omega)).trans kx1_0; have kx1_1_w11 := ((bcell hBw11.out).1 _ _ (by omega)).trans kx1_1))
  have b := hBw11.out
  have zw11 := b.size
  replace bw := bw.trans (b.mono bw.size)
  replace ka0_0 := ((bcell b).1 _ _ (by omega)).trans ka0_0
  replace ka0_1 := ((bcell b).1 _ _ (by omega)).trans ka0_1
  replace ka1_0 := ((bcell b).1 _ _ (by omega)).trans ka1_0
  replace ka1_1 := ((bcell b).1 _ _ (by omega)).trans ka1_1
  replace kx0_0 := ((bcell b).1 _ _ (by omega)).trans kx0_0
  replace kx0_1 := ((bcell b).1 _ _ (by omega)).trans kx0_1
  replace kx1_0 := ((bcell b).1 _ _ (by omega)).trans kx1_0
  replace kx1_1 := ((bcell b).1 _ _ (by omega)).trans kx1_1
  replace HX0 := Bx.mk (HX0.out.below b (by omega))
  replace HX1 := Bx.mk (HX1.out.below b (by omega))
  replace HW := Bx.mk (HW.out.below b (by omega))
  replace HC0 := Bx.mk (HC0.out.below b (by omega))
  replace HC1 := Bx.mk (HC1.out.below b (by omega))
  replace HG := Bx.mk (HG.out.below b (by omega))
  clear b
  go_wp2_with fail
  have hB : Bx (Below w11.heap.size w11 w11.drew) := ⟨(Below.refl _ _).drew⟩
  have ka0_0_d : w11.drew.cell? _ = _ := ka0_0
  have ka0_1_d : w11.drew.cell? _ = _ := ka0_1
  have ka1_0_d : w11.drew.cell? _ = _ := ka1_0
  have ka1_1_d : w11.drew.cell? _ = _ := ka1_1
  have kx0_0_d : w11.drew.cell? _ = _ := kx0_0
  have kx0_1_d : w11.drew.cell? _ = _ := kx0_1
  have kx1_0_d : w11.drew.cell? _ = _ := kx1_0
  have kx1_1_d : w11.drew.cell? _ = _ := kx1_1
  go_region_held3 (fun w' => w'.cell? ⟨w.heap.size, 0, none⟩ = some (.int .i64 s0) ∧ w'.cell? ⟨w.heap.size, 1, none⟩ = some (.slice A0 xs0.length c0) ∧ w'.cell? ⟨w.heap.size + 1, 0, none⟩ = some (.int .i64 s1) ∧ w'.cell? ⟨w.heap.size + 1, 1, none⟩ = some (.slice A1 xs1.length c1) ∧ w'.cell? ⟨w6.heap.size, 0, none⟩ = some (.int .i64 s0) ∧ w'.cell? ⟨w6.heap.size, 1, none⟩ = some (.slice w6A xs0.length w6c) ∧ w'.cell? ⟨w7.heap.size, 0, none⟩ = some (.int .i64 s1) ∧ w'.cell? ⟨w7.heap.size, 1, none⟩ = some (.slice w7A xs1.length w7c) ∧ Bx (Below w11.heap.size w11 w'))
    (exact ⟨by assumption, by assumption, by assumption, by assumption, by assumption, by assumption, by assumption, by assumption, by assumption⟩)
    (first
      | (go_at_call 28; refine (toRhythm_any _ _ _ _ _ (by exact HX1.out.ir.below (Bx.out (by assumption)))).mono ?_; rintro e w12 ⟨w12A, w12c, rfl, w12io, bw12⟩; have hBw12 : Bx (Below w11.heap.size w11 w12) := ⟨Below.trans (Bx.out (by assumption)) (bw12.mono (by simp))⟩; have ka0_0_w12 := ((bcell hBw12.out).1 _ _ (by omega)).trans ka0_0; have ka0_1_w12 := ((bcell hBw12.out).1 _ _ (by omega)).trans ka0_1; have ka1_0_w12 := ((bcell hBw12.out).1 _ _ (by omega)).trans ka1_0; have ka1_1_w12 := ((bcell hBw12.out).1 _ _ (by omega)).trans ka1_1; have kx0_0_w12 := ((bcell hBw12.out).1 _ _ (by omega)).trans kx0_0; have kx0_1_w12 := ((bcell hBw12.out).1 _ _ (by omega)).trans kx0_1; have kx1_0_w12 := ((bcell hBw12.out).1 _ _ (by omega)).trans kx1_0; have kx1_1_w12 := ((bcell hBw12.out).1 _ _ (by omega)).trans kx1_1)
      | (go_at_call 30; refine (eqRhythm_any _ _ _ _ _ _ _ _ _ (by exact HC1.out.ir.below hBw12.out) (by exact w12io.reads)).mono ?_; rintro e w13 ⟨rfl, bw13⟩; have hBw13 : Bx (Below w11.heap.size w11 w13) := ⟨Below.trans hBw12.out (bw13.mono hBw12.out.size)⟩; have ka0_0_w13 := ((bcell hBw13.out).1 _ _ (by omega)).trans ka0_0; have ka0_1_w13 := ((bcell hBw13.out).1 _ _ (by omega)).trans ka0_1; have ka1_0_w13 := ((bcell hBw13.out).1 _ _ (by omega)).trans ka1_0; have ka1_1_w13 := ((bcell hBw13.out).1 _ _ (by omega)).trans ka1_1; have kx0_0_w13 := ((bcell hBw13.out).1 _ _ (by omega)).trans kx0_0; have kx0_1_w13 := ((bcell hBw13.out).1 _ _ (by omega)).trans kx0_1; have kx1_0_w13 := ((bcell hBw13.out).1 _ _ (by omega)).trans kx1_0; have kx1_1_w13 := ((bcell hBw13.out).1 _ _ (by omega)).trans kx1_1))
  have b := hBw13.out
  have zw13 := b.size
  replace bw := bw.trans (b.mono bw.size)
  replace ka0_0 := ((bcell b).1 _ _ (by omega)).trans ka0_0
  replace ka0_1 := ((bcell b).1 _ _ (by omega)).trans ka0_1
  replace ka1_0 := ((bcell b).1 _ _ (by omega)).trans ka1_0
  replace ka1_1 := ((bcell b).1 _ _ (by omega)).trans ka1_1
  replace kx0_0 := ((bcell b).1 _ _ (by omega)).trans kx0_0
  replace kx0_1 := ((bcell b).1 _ _ (by omega)).trans kx0_1
  replace kx1_0 := ((bcell b).1 _ _ (by omega)).trans kx1_0
  replace kx1_1 := ((bcell b).1 _ _ (by omega)).trans kx1_1
  replace HX0 := Bx.mk (HX0.out.below b (by omega))
  replace HX1 := Bx.mk (HX1.out.below b (by omega))
  replace HW := Bx.mk (HW.out.below b (by omega))
  replace HC0 := Bx.mk (HC0.out.below b (by omega))
  replace HC1 := Bx.mk (HC1.out.below b (by omega))
  replace HG := Bx.mk (HG.out.below b (by omega))
  clear b
  go_wp2_with fail
  refine (markRhythm_any _ _ _ _ _ _ _ (by exact HC0.out.io) (by omega) (by omega)).mono ?_
  rintro e w14 ⟨rfl, m, o⟩
  have zw14 := o.size
  replace bw := bw.trans (HC0.out.bl o (by omega) (by omega))
  replace ka0_0 := (HC0.out.cell o (by omega) (by omega)).trans ka0_0
  replace ka0_1 := (HC0.out.cell o (by omega) (by omega)).trans ka0_1
  replace ka1_0 := (HC0.out.cell o (by omega) (by omega)).trans ka1_0
  replace ka1_1 := (HC0.out.cell o (by omega) (by omega)).trans ka1_1
  replace kx0_0 := (HC0.out.cell o (by omega) (by omega)).trans kx0_0
  replace kx0_1 := (HC0.out.cell o (by omega) (by omega)).trans kx0_1
  replace kx1_0 := (HC0.out.cell o (by omega) (by omega)).trans kx1_0
  replace kx1_1 := (HC0.out.cell o (by omega) (by omega)).trans kx1_1
  replace HX0 := Bx.mk (HX0.out.only o HC0.out (by omega))
  replace HX1 := Bx.mk (HX1.out.only o HC0.out (by omega))
  replace HW := Bx.mk (HW.out.only o HC0.out (by omega))
  replace HC1 := Bx.mk (HC1.out.only o HC0.out (by omega))
  replace HG := Bx.mk (HG.out.only o HC0.out (by omega))
  replace HC0 := Bx.mk (HC0.out.marked m)
  clear o m
  go_wp2_with fail
  refine (markRhythm_any _ _ _ _ _ _ _ (by exact HC1.out.io) (by omega) (by omega)).mono ?_
  rintro e w15 ⟨rfl, m, o⟩
  have zw15 := o.size
  replace bw := bw.trans (HC1.out.bl o (by omega) (by omega))
  replace ka0_0 := (HC1.out.cell o (by omega) (by omega)).trans ka0_0
  replace ka0_1 := (HC1.out.cell o (by omega) (by omega)).trans ka0_1
  replace ka1_0 := (HC1.out.cell o (by omega) (by omega)).trans ka1_0
  replace ka1_1 := (HC1.out.cell o (by omega) (by omega)).trans ka1_1
  replace kx0_0 := (HC1.out.cell o (by omega) (by omega)).trans kx0_0
  replace kx0_1 := (HC1.out.cell o (by omega) (by omega)).trans kx0_1
  replace kx1_0 := (HC1.out.cell o (by omega) (by omega)).trans kx1_0
  replace kx1_1 := (HC1.out.cell o (by omega) (by omega)).trans kx1_1
  replace HX0 := Bx.mk (HX0.out.only o HC1.out (by omega))
  replace HX1 := Bx.mk (HX1.out.only o HC1.out (by omega))
  replace HW := Bx.mk (HW.out.only o HC1.out (by omega))
  replace HC0 := Bx.mk (HC0.out.only o HC1.out (by omega))
  replace HG := Bx.mk (HG.out.only o HC1.out (by omega))
  replace HC1 := Bx.mk (HC1.out.marked m)
  clear o m
  go_wp2_with fail
  refine (eqIntS_b _ _ _ _ _ _ _ (by exact HG.out.ir) (by exact HW.out.ir)).mono ?_
  rintro e w16 ⟨rfl, b⟩
  have zw16 := b.size
  replace bw := bw.trans (b.mono bw.size)
  replace ka0_0 := ((bcell b).1 _ _ (by omega)).trans ka0_0
  replace ka0_1 := ((bcell b).1 _ _ (by omega)).trans ka0_1
  replace ka1_0 := ((bcell b).1 _ _ (by omega)).trans ka1_0
  replace ka1_1 := ((bcell b).1 _ _ (by omega)).trans ka1_1
  replace kx0_0 := ((bcell b).1 _ _ (by omega)).trans kx0_0
  replace kx0_1 := ((bcell b).1 _ _ (by omega)).trans kx0_1
  replace kx1_0 := ((bcell b).1 _ _ (by omega)).trans kx1_0
  replace kx1_1 := ((bcell b).1 _ _ (by omega)).trans kx1_1
  replace HX0 := Bx.mk (HX0.out.below b (by omega))
  replace HX1 := Bx.mk (HX1.out.below b (by omega))
  replace HW := Bx.mk (HW.out.below b (by omega))
  replace HC0 := Bx.mk (HC0.out.below b (by omega))
  replace HC1 := Bx.mk (HC1.out.below b (by omega))
  replace HG := Bx.mk (HG.out.below b (by omega))
  clear b
  go_wp2_with fail
  refine (markIntS_any _ _ _ _ _ _ (by exact HG.out.io) (by omega) (by omega)).mono ?_
  rintro e w17 ⟨rfl, m, o⟩
  have zw17 := o.size
  replace bw := bw.trans (HG.out.bl o (by omega) (by omega))
  replace ka0_0 := (HG.out.cell o (by omega) (by omega)).trans ka0_0
  replace ka0_1 := (HG.out.cell o (by omega) (by omega)).trans ka0_1
  replace ka1_0 := (HG.out.cell o (by omega) (by omega)).trans ka1_0
  replace ka1_1 := (HG.out.cell o (by omega) (by omega)).trans ka1_1
  replace kx0_0 := (HG.out.cell o (by omega) (by omega)).trans kx0_0
  replace kx0_1 := (HG.out.cell o (by omega) (by omega)).trans kx0_1
  replace kx1_0 := (HG.out.cell o (by omega) (by omega)).trans kx1_0
  replace kx1_1 := (HG.out.cell o (by omega) (by omega)).trans kx1_1
  replace HX0 := Bx.mk (HX0.out.only o HG.out (by omega))
  replace HX1 := Bx.mk (HX1.out.only o HG.out (by omega))
  replace HW := Bx.mk (HW.out.only o HG.out (by omega))
  replace HC0 := Bx.mk (HC0.out.only o HG.out (by omega))
  replace HC1 := Bx.mk (HC1.out.only o HG.out (by omega))
  replace HG := Bx.mk (HG.out.marked m)
  clear o m
  go_wp2_with fail
  refine (heldIntS_b _ _ _ _ _ (by exact HG.out.ir) (by omega) (by omega)).mono ?_
  rintro e w18 ⟨rfl, b⟩
  have zw18 := b.size
  replace bw := bw.trans (b.mono bw.size)
  replace ka0_0 := ((bcell b).1 _ _ (by omega)).trans ka0_0
  replace ka0_1 := ((bcell b).1 _ _ (by omega)).trans ka0_1
  replace ka1_0 := ((bcell b).1 _ _ (by omega)).trans ka1_0
  replace ka1_1 := ((bcell b).1 _ _ (by omega)).trans ka1_1
  replace kx0_0 := ((bcell b).1 _ _ (by omega)).trans kx0_0
  replace kx0_1 := ((bcell b).1 _ _ (by omega)).trans kx0_1
  replace kx1_0 := ((bcell b).1 _ _ (by omega)).trans kx1_0
  replace kx1_1 := ((bcell b).1 _ _ (by omega)).trans kx1_1
  replace HX0 := Bx.mk (HX0.out.below b (by omega))
  replace HX1 := Bx.mk (HX1.out.below b (by omega))
  replace HW := Bx.mk (HW.out.below b (by omega))
  replace HC0 := Bx.mk (HC0.out.below b (by omega))
  replace HC1 := Bx.mk (HC1.out.below b (by omega))
  replace HG := Bx.mk (HG.out.below b (by omega))
  clear b
  go_wp2_with fail
  have hB : Bx (Below w18.heap.size w18 w18.drew) := ⟨(Below.refl _ _).drew⟩
  have ka0_0_d : w18.drew.cell? _ = _ := ka0_0
  have ka0_1_d : w18.drew.cell? _ = _ := ka0_1
  have ka1_0_d : w18.drew.cell? _ = _ := ka1_0
  have ka1_1_d : w18.drew.cell? _ = _ := ka1_1
  have kx0_0_d : w18.drew.cell? _ = _ := kx0_0
  have kx0_1_d : w18.drew.cell? _ = _ := kx0_1
  have kx1_0_d : w18.drew.cell? _ = _ := kx1_0
  have kx1_1_d : w18.drew.cell? _ = _ := kx1_1
  go_region_held3 (fun w' => w'.cell? ⟨w.heap.size, 0, none⟩ = some (.int .i64 s0) ∧ w'.cell? ⟨w.heap.size, 1, none⟩ = some (.slice A0 xs0.length c0) ∧ w'.cell? ⟨w.heap.size + 1, 0, none⟩ = some (.int .i64 s1) ∧ w'.cell? ⟨w.heap.size + 1, 1, none⟩ = some (.slice A1 xs1.length c1) ∧ w'.cell? ⟨w6.heap.size, 0, none⟩ = some (.int .i64 s0) ∧ w'.cell? ⟨w6.heap.size, 1, none⟩ = some (.slice w6A xs0.length w6c) ∧ w'.cell? ⟨w7.heap.size, 0, none⟩ = some (.int .i64 s1) ∧ w'.cell? ⟨w7.heap.size, 1, none⟩ = some (.slice w7A xs1.length w7c) ∧ Bx (Below w18.heap.size w18 w'))
    (exact ⟨by assumption, by assumption, by assumption, by assumption, by assumption, by assumption, by assumption, by assumption, by assumption⟩)
    (first
      | (go_at_call_of 28 (c0); refine (toRhythm_any _ _ _ _ _ (by exact HX0.out.ir.below (Bx.out (by assumption)))).mono ?_; rintro e w19 ⟨w19A, w19c, rfl, w19io, bw19⟩; have hBw19 : Bx (Below w18.heap.size w18 w19) := ⟨Below.trans (Bx.out (by assumption)) (bw19.mono (by simp))⟩; have ka0_0_w19 := ((bcell hBw19.out).1 _ _ (by omega)).trans ka0_0; have ka0_1_w19 := ((bcell hBw19.out).1 _ _ (by omega)).trans ka0_1; have ka1_0_w19 := ((bcell hBw19.out).1 _ _ (by omega)).trans ka1_0; have ka1_1_w19 := ((bcell hBw19.out).1 _ _ (by omega)).trans ka1_1; have kx0_0_w19 := ((bcell hBw19.out).1 _ _ (by omega)).trans kx0_0; have kx0_1_w19 := ((bcell hBw19.out).1 _ _ (by omega)).trans kx0_1; have kx1_0_w19 := ((bcell hBw19.out).1 _ _ (by omega)).trans kx1_0; have kx1_1_w19 := ((bcell hBw19.out).1 _ _ (by omega)).trans kx1_1)
      | (go_at_call_of 28 (c1); refine (toRhythm_any _ _ _ _ _ (by exact HX1.out.ir.below hBw19.out)).mono ?_; rintro e w20 ⟨w20A, w20c, rfl, w20io, bw20⟩; have hBw20 : Bx (Below w18.heap.size w18 w20) := ⟨Below.trans hBw19.out (bw20.mono hBw19.out.size)⟩; have ka0_0_w20 := ((bcell hBw20.out).1 _ _ (by omega)).trans ka0_0; have ka0_1_w20 := ((bcell hBw20.out).1 _ _ (by omega)).trans ka0_1; have ka1_0_w20 := ((bcell hBw20.out).1 _ _ (by omega)).trans ka1_0; have ka1_1_w20 := ((bcell hBw20.out).1 _ _ (by omega)).trans ka1_1; have kx0_0_w20 := ((bcell hBw20.out).1 _ _ (by omega)).trans kx0_0; have kx0_1_w20 := ((bcell hBw20.out).1 _ _ (by omega)).trans kx0_1; have kx1_0_w20 := ((bcell hBw20.out).1 _ _ (by omega)).trans kx1_0; have kx1_1_w20 := ((bcell hBw20.out).1 _ _ (by omega)).trans kx1_1)
      | (go_at_call 47; refine (implLeft_any _ _ _ _ _ _ _ _ _ HS0.out HS1.out (by exact (w19io.reads).below bw20) (by exact w20io.reads)).mono ?_; rintro e w21 ⟨w21A, w21c, rfl, w21io, bw21⟩; have hBw21 : Bx (Below w18.heap.size w18 w21) := ⟨Below.trans hBw20.out (bw21.mono hBw20.out.size)⟩; have ka0_0_w21 := ((bcell hBw21.out).1 _ _ (by omega)).trans ka0_0; have ka0_1_w21 := ((bcell hBw21.out).1 _ _ (by omega)).trans ka0_1; have ka1_0_w21 := ((bcell hBw21.out).1 _ _ (by omega)).trans ka1_0; have ka1_1_w21 := ((bcell hBw21.out).1 _ _ (by omega)).trans ka1_1; have kx0_0_w21 := ((bcell hBw21.out).1 _ _ (by omega)).trans kx0_0; have kx0_1_w21 := ((bcell hBw21.out).1 _ _ (by omega)).trans kx0_1; have kx1_0_w21 := ((bcell hBw21.out).1 _ _ (by omega)).trans kx1_0; have kx1_1_w21 := ((bcell hBw21.out).1 _ _ (by omega)).trans kx1_1))
  have b := hBw21.out
  have zw21 := b.size
  replace bw := bw.trans (b.mono bw.size)
  replace ka0_0 := ((bcell b).1 _ _ (by omega)).trans ka0_0
  replace ka0_1 := ((bcell b).1 _ _ (by omega)).trans ka0_1
  replace ka1_0 := ((bcell b).1 _ _ (by omega)).trans ka1_0
  replace ka1_1 := ((bcell b).1 _ _ (by omega)).trans ka1_1
  replace kx0_0 := ((bcell b).1 _ _ (by omega)).trans kx0_0
  replace kx0_1 := ((bcell b).1 _ _ (by omega)).trans kx0_1
  replace kx1_0 := ((bcell b).1 _ _ (by omega)).trans kx1_0
  replace kx1_1 := ((bcell b).1 _ _ (by omega)).trans kx1_1
  replace HX0 := Bx.mk (HX0.out.below b (by omega))
  replace HX1 := Bx.mk (HX1.out.below b (by omega))
  replace HW := Bx.mk (HW.out.below b (by omega))
  replace HC0 := Bx.mk (HC0.out.below b (by omega))
  replace HC1 := Bx.mk (HC1.out.below b (by omega))
  replace HG := Bx.mk (HG.out.below b (by omega))
  clear b
  have zw19 : w18.heap.size ≤ w19.heap.size := bw19.size
  have zw20 : w19.heap.size ≤ w20.heap.size := bw20.size
  have HH := Bx.mk (OB.of (w21io.mono (by first | omega | (simp <;> omega) : w18.heap.size ≤ _)) (Nat.le_refl _))
  clear w21io
  go_wp2_with fail
  refine (eqIntS_b _ _ _ _ _ _ _ (by exact HH.out.ir) (by exact HW.out.ir)).mono ?_
  rintro e w22 ⟨rfl, b⟩
  have zw22 := b.size
  replace bw := bw.trans (b.mono bw.size)
  replace ka0_0 := ((bcell b).1 _ _ (by omega)).trans ka0_0
  replace ka0_1 := ((bcell b).1 _ _ (by omega)).trans ka0_1
  replace ka1_0 := ((bcell b).1 _ _ (by omega)).trans ka1_0
  replace ka1_1 := ((bcell b).1 _ _ (by omega)).trans ka1_1
  replace kx0_0 := ((bcell b).1 _ _ (by omega)).trans kx0_0
  replace kx0_1 := ((bcell b).1 _ _ (by omega)).trans kx0_1
  replace kx1_0 := ((bcell b).1 _ _ (by omega)).trans kx1_0
  replace kx1_1 := ((bcell b).1 _ _ (by omega)).trans kx1_1
  replace HX0 := Bx.mk (HX0.out.below b (by omega))
  replace HX1 := Bx.mk (HX1.out.below b (by omega))
  replace HW := Bx.mk (HW.out.below b (by omega))
  replace HC0 := Bx.mk (HC0.out.below b (by omega))
  replace HC1 := Bx.mk (HC1.out.below b (by omega))
  replace HG := Bx.mk (HG.out.below b (by omega))
  replace HH := Bx.mk (HH.out.below b (by omega))
  clear b
  go_wp2_with fail
  refine (heldIntS_b _ _ _ _ _ (by exact HG.out.ir) (by omega) (by omega)).mono ?_
  rintro e w23 ⟨rfl, b⟩
  have zw23 := b.size
  replace bw := bw.trans (b.mono bw.size)
  replace ka0_0 := ((bcell b).1 _ _ (by omega)).trans ka0_0
  replace ka0_1 := ((bcell b).1 _ _ (by omega)).trans ka0_1
  replace ka1_0 := ((bcell b).1 _ _ (by omega)).trans ka1_0
  replace ka1_1 := ((bcell b).1 _ _ (by omega)).trans ka1_1
  replace kx0_0 := ((bcell b).1 _ _ (by omega)).trans kx0_0
  replace kx0_1 := ((bcell b).1 _ _ (by omega)).trans kx0_1
  replace kx1_0 := ((bcell b).1 _ _ (by omega)).trans kx1_0
  replace kx1_1 := ((bcell b).1 _ _ (by omega)).trans kx1_1
  replace HX0 := Bx.mk (HX0.out.below b (by omega))
  replace HX1 := Bx.mk (HX1.out.below b (by omega))
  replace HW := Bx.mk (HW.out.below b (by omega))
  replace HC0 := Bx.mk (HC0.out.below b (by omega))
  replace HC1 := Bx.mk (HC1.out.below b (by omega))
  replace HG := Bx.mk (HG.out.below b (by omega))
  replace HH := Bx.mk (HH.out.below b (by omega))
  clear b
  go_wp2_with fail
  go_ret
  exact ⟨rfl, bw⟩
end Go.Proofs.Ytmgemafkaddfjaa
