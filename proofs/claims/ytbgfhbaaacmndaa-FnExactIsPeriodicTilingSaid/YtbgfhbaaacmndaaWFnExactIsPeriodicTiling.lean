/- The law on IsPeriodicTiling, walked. -/
import Derived.Test.YtbgfhbaaacmndaaPerT
import Derived.Test.YtbgfhbaaacmndaaLawRh
import Derived.Test.YtbgfhbaaacmndaaFinRh
import Derived.Test.YtbgfhbaaacmndaaObjs
import Derived.Test.YtbgfhbaaacmndaaBxB
import Derived.Test.YtbgfhbaaacmndaaLawCn
import Derived.Deep.RegionHeld3
import Derived.Deep.DeepCutAuto
namespace Go.Proofs.Ytbgfhbaaacmndaa
open Go.RowKit

set_option maxHeartbeats 4000000 in
set_option maxRecDepth 20000 in
theorem walkFnExactIsPeriodicTiling (w : World) (s0 : Int) (hs0 : -9223372036854775808 ≤ s0 ∧ s0 ≤ 9223372036854775807) (A0 : Option Addr) (c0 : Nat) (xs0 : List Int) (ha0 : AR .i64 w A0 xs0) (_hf0 : Fits xs0) (s1 : Int) (hs1 : -9223372036854775808 ≤ s1 ∧ s1 ≤ 9223372036854775807) (A1 : Option Addr) (c1 : Nat) (xs1 : List Int) (ha1 : AR .i64 w A1 xs1) (_hf1 : Fits xs1) :
    Calls Try.prog 8 #[.agg #[.int .i64 s0, .slice A0 xs0.length c0], .agg #[.int .i64 s1, .slice A1 xs1.length c1]] w fun e w' => e = .returned (.bool true) ∧ Below w.heap.size w w' := by
  obtain ⟨W0, hW0⟩ : ∃ W0, W0 = ((w.alloc (.cells #[.int .i64 s0, .slice A0 xs0.length c0] 24)).alloc (.cells #[.int .i64 s1, .slice A1 xs1.length c1] 24)) := ⟨_, rfl⟩
  have bw : Below w.heap.size w W0 := by rw [hW0]; exact ((Below.refl _ _).alloc (by simp <;> omega) _).alloc (by simp <;> omega) _
  have zW0 : w.heap.size + 2 ≤ W0.heap.size := by rw [hW0]; simp
  have ka0_0 : W0.cell? ⟨w.heap.size, 0, none⟩ = some (.int .i64 s0) := by rw [hW0]; simp [go_sem]
  have ka0_1 : W0.cell? ⟨w.heap.size, 1, none⟩ = some (.slice A0 xs0.length c0) := by rw [hW0]; simp [go_sem]
  have ka1_0 : W0.cell? ⟨w.heap.size + 1, 0, none⟩ = some (.int .i64 s1) := by rw [hW0]; simp [go_sem]
  have ka1_1 : W0.cell? ⟨w.heap.size + 1, 1, none⟩ = some (.slice A1 xs1.length c1) := by rw [hW0]; simp [go_sem]
  have hml0 := ha0.1
  have hml1 := ha1.1
  by_cases h0 : (xs0.length : Int) ≤ (1048576 : Int)
  rotate_left
  · have HN : Bx ((1048576 : Int) < (xs0.length : Int)) := ⟨by omega⟩
    go_enter Try.func8, Try.ntmps8
    go_wp2_with fail
    rw [← hW0]
    clear hW0
    refine (szRhythm_no _ _ _ _ hml0 _ (by omega) HN.out _).mono ?_
    rintro e w1 ⟨rfl, b⟩
    replace bw := bw.trans (b.mono bw.size)
    go_wp2_with fail
    go_ret
    exact ⟨rfl, bw⟩
  by_cases h1 : (xs1.length : Int) ≤ (1048576 - (xs0.length : Int))
  rotate_left
  · have HN : Bx ((1048576 - (xs0.length : Int)) < (xs1.length : Int)) := ⟨by omega⟩
    go_enter Try.func8, Try.ntmps8
    go_wp2_with fail
    rw [← hW0]
    clear hW0
    refine (szRhythm_yes _ _ _ _ hml0 _ (by omega) h0 _).mono ?_
    rintro e w1 ⟨rfl, b⟩
    have zw1 := b.size
    replace bw := bw.trans (b.mono bw.size)
    replace ka0_0 := ((bcell b).1 _ _ (by omega)).trans ka0_0
    replace ka0_1 := ((bcell b).1 _ _ (by omega)).trans ka0_1
    replace ka1_0 := ((bcell b).1 _ _ (by omega)).trans ka1_0
    replace ka1_1 := ((bcell b).1 _ _ (by omega)).trans ka1_1
    clear b
    go_wp2_with fail
    refine (szRhythm_no _ _ _ _ hml1 _ (by omega) HN.out _).mono ?_
    rintro e w2 ⟨rfl, b⟩
    replace bw := bw.trans (b.mono bw.size)
    go_wp2_with fail
    go_ret
    exact ⟨rfl, bw⟩
  have HX0 := Bx.mk ((RB.of_ir (ha0.ir (by omega))).below bw (Nat.le_refl _))
  have HS0 := Bx.mk hs0
  clear ha0 hs0
  have HX1 := Bx.mk ((RB.of_ir (ha1.ir (by omega))).below bw (Nat.le_refl _))
  have HS1 := Bx.mk hs1
  clear ha1 hs1
  go_enter Try.func8, Try.ntmps8
  go_wp2_with fail
  rw [← hW0]
  clear hW0
  refine (szRhythm_yes _ _ _ _ hml0 _ (by omega) h0 _).mono ?_
  rintro e w1 ⟨rfl, b⟩
  have zw1 := b.size
  replace bw := bw.trans (b.mono bw.size)
  replace ka0_0 := ((bcell b).1 _ _ (by omega)).trans ka0_0
  replace ka0_1 := ((bcell b).1 _ _ (by omega)).trans ka0_1
  replace ka1_0 := ((bcell b).1 _ _ (by omega)).trans ka1_0
  replace ka1_1 := ((bcell b).1 _ _ (by omega)).trans ka1_1
  replace HX0 := Bx.mk (HX0.out.below b (by omega))
  replace HX1 := Bx.mk (HX1.out.below b (by omega))
  clear b
  go_wp2_with fail
  refine (szRhythm_yes _ _ _ _ hml1 _ (by omega) h1 _).mono ?_
  rintro e w2 ⟨rfl, b⟩
  have zw2 := b.size
  replace bw := bw.trans (b.mono bw.size)
  replace ka0_0 := ((bcell b).1 _ _ (by omega)).trans ka0_0
  replace ka0_1 := ((bcell b).1 _ _ (by omega)).trans ka0_1
  replace ka1_0 := ((bcell b).1 _ _ (by omega)).trans ka1_0
  replace ka1_1 := ((bcell b).1 _ _ (by omega)).trans ka1_1
  replace HX0 := Bx.mk (HX0.out.below b (by omega))
  replace HX1 := Bx.mk (HX1.out.below b (by omega))
  clear b
  go_wp2_with fail
  have hB : Bx (Below w2.heap.size w2 w2.drew) := ⟨(Below.refl _ _).drew⟩
  have ka0_0_d : w2.drew.cell? _ = _ := ka0_0
  have ka0_1_d : w2.drew.cell? _ = _ := ka0_1
  have ka1_0_d : w2.drew.cell? _ = _ := ka1_0
  have ka1_1_d : w2.drew.cell? _ = _ := ka1_1
  go_region_held3 (fun w' => w'.cell? ⟨w.heap.size, 0, none⟩ = some (.int .i64 s0) ∧ w'.cell? ⟨w.heap.size, 1, none⟩ = some (.slice A0 xs0.length c0) ∧ w'.cell? ⟨w.heap.size + 1, 0, none⟩ = some (.int .i64 s1) ∧ w'.cell? ⟨w.heap.size + 1, 1, none⟩ = some (.slice A1 xs1.length c1) ∧ Bx (Below w2.heap.size w2 w'))
    (exact ⟨by assumption, by assumption, by assumption, by assumption, by assumption⟩)
    (first
      | (go_at_call_of 11 (c0); refine (toRhythm_any _ _ _ _ _ (by exact HX0.out.ir.below (Bx.out (by assumption)))).mono ?_; rintro e w3 ⟨w3A, w3c, rfl, w3io, bw3⟩; have hBw3 : Bx (Below w2.heap.size w2 w3) := ⟨Below.trans (Bx.out (by assumption)) (bw3.mono (by simp))⟩; have ka0_0_w3 := ((bcell hBw3.out).1 _ _ (by omega)).trans ka0_0; have ka0_1_w3 := ((bcell hBw3.out).1 _ _ (by omega)).trans ka0_1; have ka1_0_w3 := ((bcell hBw3.out).1 _ _ (by omega)).trans ka1_0; have ka1_1_w3 := ((bcell hBw3.out).1 _ _ (by omega)).trans ka1_1)
      | (go_at_call_of 11 (c1); refine (toRhythm_any _ _ _ _ _ (by exact HX1.out.ir.below hBw3.out)).mono ?_; rintro e w4 ⟨w4A, w4c, rfl, w4io, bw4⟩; have hBw4 : Bx (Below w2.heap.size w2 w4) := ⟨Below.trans hBw3.out (bw4.mono hBw3.out.size)⟩; have ka0_0_w4 := ((bcell hBw4.out).1 _ _ (by omega)).trans ka0_0; have ka0_1_w4 := ((bcell hBw4.out).1 _ _ (by omega)).trans ka0_1; have ka1_0_w4 := ((bcell hBw4.out).1 _ _ (by omega)).trans ka1_0; have ka1_1_w4 := ((bcell hBw4.out).1 _ _ (by omega)).trans ka1_1)
      | (go_at_call 27; refine (specPerTil_any _ _ _ _ _ _ _ _ _ HS0.out HS1.out (by exact (w3io.reads).below bw4) (by exact w4io.reads)).mono ?_; rintro e w5 ⟨rfl, bw5⟩; have hBw5 : Bx (Below w2.heap.size w2 w5) := ⟨Below.trans hBw4.out (bw5.mono hBw4.out.size)⟩; have ka0_0_w5 := ((bcell hBw5.out).1 _ _ (by omega)).trans ka0_0; have ka0_1_w5 := ((bcell hBw5.out).1 _ _ (by omega)).trans ka0_1; have ka1_0_w5 := ((bcell hBw5.out).1 _ _ (by omega)).trans ka1_0; have ka1_1_w5 := ((bcell hBw5.out).1 _ _ (by omega)).trans ka1_1))
  have b := hBw5.out
  have zw5 := b.size
  replace bw := bw.trans (b.mono bw.size)
  replace ka0_0 := ((bcell b).1 _ _ (by omega)).trans ka0_0
  replace ka0_1 := ((bcell b).1 _ _ (by omega)).trans ka0_1
  replace ka1_0 := ((bcell b).1 _ _ (by omega)).trans ka1_0
  replace ka1_1 := ((bcell b).1 _ _ (by omega)).trans ka1_1
  replace HX0 := Bx.mk (HX0.out.below b (by omega))
  replace HX1 := Bx.mk (HX1.out.below b (by omega))
  clear b
  have zw3 : w2.heap.size ≤ w3.heap.size := bw3.size
  have zw4 : w3.heap.size ≤ w4.heap.size := bw4.size
  go_wp2_with fail
  refine (toRhythm_any _ _ _ _ _ (by exact HX0.out.ir)).mono ?_
  rintro e w6 ⟨w6A, w6c, rfl, w6io, b⟩
  have zw6 := b.size
  replace bw := bw.trans (b.mono bw.size)
  replace ka0_0 := ((bcell b).1 _ _ (by omega)).trans ka0_0
  replace ka0_1 := ((bcell b).1 _ _ (by omega)).trans ka0_1
  replace ka1_0 := ((bcell b).1 _ _ (by omega)).trans ka1_0
  replace ka1_1 := ((bcell b).1 _ _ (by omega)).trans ka1_1
  replace HX0 := Bx.mk (HX0.out.below b (by omega))
  replace HX1 := Bx.mk (HX1.out.below b (by omega))
  clear b
  have HC0 := Bx.mk (OB.of (w6io.mono (by first | omega | (simp <;> omega) : w5.heap.size ≤ _)) (Nat.le_refl _))
  clear w6io
  have ltw6_0 : w.heap.size < w6.heap.size := by omega
  have ltw6_1 : w.heap.size + 1 < w6.heap.size := by omega
  go_wp2_with fail
  clear ltw6_0
  clear ltw6_1
  refine (toRhythm_any _ _ _ _ _ (by exact HX1.out.ir.alloc _)).mono ?_
  rintro e w7 ⟨w7A, w7c, rfl, w7io, b⟩
  have b' : Below w6.heap.size w6 w7 := (below_alloc _ _).trans (b.mono (by simp <;> omega))
  have kx0_0 : w7.cell? ⟨w6.heap.size, 0, none⟩ = some (.int .i64 s0) := ((bcell b).1 _ _ (by simp <;> omega)).trans (by simp [go_sem])
  have kx0_1 : w7.cell? ⟨w6.heap.size, 1, none⟩ = some (.slice w6A xs0.length w6c) := ((bcell b).1 _ _ (by simp <;> omega)).trans (by simp [go_sem])
  have zw7 : w6.heap.size + 1 ≤ w7.heap.size := by have := b.size; simp at this; omega
  replace bw := bw.trans (b'.mono bw.size)
  replace ka0_0 := ((bcell b').1 _ _ (by omega)).trans ka0_0
  replace ka0_1 := ((bcell b').1 _ _ (by omega)).trans ka0_1
  replace ka1_0 := ((bcell b').1 _ _ (by omega)).trans ka1_0
  replace ka1_1 := ((bcell b').1 _ _ (by omega)).trans ka1_1
  replace HX0 := Bx.mk (HX0.out.below b' (by omega))
  replace HX1 := Bx.mk (HX1.out.below b' (by omega))
  replace HC0 := Bx.mk (HC0.out.below b' (by omega))
  clear b b'
  have HC1 := Bx.mk (OB.of (w7io.mono (by first | omega | (simp <;> omega) : w6.heap.size + 1 ≤ _)) (Nat.le_refl _))
  clear w7io
  have ltw7_0 : w.heap.size < w7.heap.size := by omega
  have ltw7_1 : w.heap.size + 1 < w7.heap.size := by omega
  have ltw7_2 : w6.heap.size < w7.heap.size := by omega
  go_wp2_with fail
  clear ltw7_0
  clear ltw7_1
  clear ltw7_2
  refine (implPerTil_any _ _ _ _ _ _ _ _ _ HS0.out HS1.out (by exact HC0.out.ir.alloc _) (by exact HC1.out.ir.alloc _)).mono ?_
  rintro e w8 ⟨rfl, b⟩
  have b' : Below w7.heap.size w7 w8 := (below_alloc _ _).trans (b.mono (by simp <;> omega))
  have kx1_0 : w8.cell? ⟨w7.heap.size, 0, none⟩ = some (.int .i64 s1) := ((bcell b).1 _ _ (by simp <;> omega)).trans (by simp [go_sem])
  have kx1_1 : w8.cell? ⟨w7.heap.size, 1, none⟩ = some (.slice w7A xs1.length w7c) := ((bcell b).1 _ _ (by simp <;> omega)).trans (by simp [go_sem])
  have zw8 : w7.heap.size + 1 ≤ w8.heap.size := by have := b.size; simp at this; omega
  replace bw := bw.trans (b'.mono bw.size)
  replace ka0_0 := ((bcell b').1 _ _ (by omega)).trans ka0_0
  replace ka0_1 := ((bcell b').1 _ _ (by omega)).trans ka0_1
  replace ka1_0 := ((bcell b').1 _ _ (by omega)).trans ka1_0
  replace ka1_1 := ((bcell b').1 _ _ (by omega)).trans ka1_1
  replace kx0_0 := ((bcell b').1 _ _ (by omega)).trans kx0_0
  replace kx0_1 := ((bcell b').1 _ _ (by omega)).trans kx0_1
  replace HX0 := Bx.mk (HX0.out.below b' (by omega))
  replace HX1 := Bx.mk (HX1.out.below b' (by omega))
  replace HC0 := Bx.mk (HC0.out.below b' (by omega))
  replace HC1 := Bx.mk (HC1.out.below b' (by omega))
  clear b b'
  go_wp2_with fail
  have hB : Bx (Below w8.heap.size w8 w8.drew) := ⟨(Below.refl _ _).drew⟩
  have ka0_0_d : w8.drew.cell? _ = _ := ka0_0
  have ka0_1_d : w8.drew.cell? _ = _ := ka0_1
  have ka1_0_d : w8.drew.cell? _ = _ := ka1_0
  have ka1_1_d : w8.drew.cell? _ = _ := ka1_1
  have kx0_0_d : w8.drew.cell? _ = _ := kx0_0
  have kx0_1_d : w8.drew.cell? _ = _ := kx0_1
  have kx1_0_d : w8.drew.cell? _ = _ := kx1_0
  have kx1_1_d : w8.drew.cell? _ = _ := kx1_1
  go_region_held3 (fun w' => w'.cell? ⟨w.heap.size, 0, none⟩ = some (.int .i64 s0) ∧ w'.cell? ⟨w.heap.size, 1, none⟩ = some (.slice A0 xs0.length c0) ∧ w'.cell? ⟨w.heap.size + 1, 0, none⟩ = some (.int .i64 s1) ∧ w'.cell? ⟨w.heap.size + 1, 1, none⟩ = some (.slice A1 xs1.length c1) ∧ w'.cell? ⟨w6.heap.size, 0, none⟩ = some (.int .i64 s0) ∧ w'.cell? ⟨w6.heap.size, 1, none⟩ = some (.slice w6A xs0.length w6c) ∧ w'.cell? ⟨w7.heap.size, 0, none⟩ = some (.int .i64 s1) ∧ w'.cell? ⟨w7.heap.size, 1, none⟩ = some (.slice w7A xs1.length w7c) ∧ Bx (Below w8.heap.size w8 w'))
    (exact ⟨by assumption, by assumption, by assumption, by assumption, by assumption, by assumption, by assumption, by assumption, by assumption⟩)
    (first
      | (go_at_call 11; refine (toRhythm_any _ _ _ _ _ (by exact HX0.out.ir.below (Bx.out (by assumption)))).mono ?_; rintro e w9 ⟨w9A, w9c, rfl, w9io, bw9⟩; have hBw9 : Bx (Below w8.heap.size w8 w9) := ⟨Below.trans (Bx.out (by assumption)) (bw9.mono (by simp))⟩; have ka0_0_w9 := ((bcell hBw9.out).1 _ _ (by omega)).trans ka0_0; have ka0_1_w9 := ((bcell hBw9.out).1 _ _ (by omega)).trans ka0_1; have ka1_0_w9 := ((bcell hBw9.out).1 _ _ (by omega)).trans ka1_0; have ka1_1_w9 := ((bcell hBw9.out).1 _ _ (by omega)).trans ka1_1; have kx0_0_w9 := ((bcell hBw9.out).1 _ _ (by omega)).trans kx0_0; have kx0_1_w9 := ((bcell hBw9.out).1 _ _ (by omega)).trans kx0_1; have kx1_0_w9 := ((bcell hBw9.out).1 _ _ (by omega)).trans kx1_0; have kx1_1_w9 := ((bcell hBw9.out).1 _ _ (by omega)).trans kx1_1)
      | (go_at_call 13; refine (eqRhythm_any _ _ _ _ _ _ _ _ _ (by exact HC0.out.ir.below hBw9.out) (by exact w9io.reads)).mono ?_; rintro e w10 ⟨rfl, bw10⟩; have hBw10 : Bx (Below w8.heap.size w8 w10) := ⟨Below.trans hBw9.out (bw10.mono hBw9.out.size)⟩; have ka0_0_w10 := ((bcell hBw10.out).1 _ _ (by omega)).trans ka0_0; have ka0_1_w10 := ((bcell hBw10.out).1 _ _ (by omega)).trans ka0_1; have ka1_0_w10 := ((bcell hBw10.out).1 _ _ (by omega)).trans ka1_0; have ka1_1_w10 := ((bcell hBw10.out).1 _ _ (by omega)).trans ka1_1; have kx0_0_w10 := ((bcell hBw10.out).1 _ _ (by omega)).trans kx0_0; have kx0_1_w10 := ((bcell hBw10.out).1 _ _ (by omega)).trans kx0_1; have kx1_0_w10 := ((bcell hBw10.out).1 _ _ (by omega)).trans kx1_0; have kx1_1_w10 := ((bcell hBw10.out).1 _ _ (by omega)).trans kx1_1))
  have b := hBw10.out
  have zw10 := b.size
  replace bw := bw.trans (b.mono bw.size)
  replace ka0_0 := ((bcell b).1 _ _ (by omega)).trans ka0_0
  replace ka0_1 := ((bcell b).1 _ _ (by omega)).trans ka0_1
  replace ka1_0 := ((bcell b).1 _ _ (by omega)).trans ka1_0
  replace ka1_1 := ((bcell b).1 _ _ (by omega)).trans ka1_1
  replace kx0_0 := ((bcell b).1 _ _ (by omega)).trans kx0_0
  replace kx0_1 := ((bcell b).1 _ _ (by omega)).trans kx0_1
  replace kx1_0 := ((bcell b).1 _ _ (by omega)).trans kx1_0
  replace kx1_1 := ((bcell b).1 _ _ (by omega)).trans kx1_1
  replace HX0 := Bx.mk (HX0.out.below b (by omega))
  replace HX1 := Bx.mk (HX1.out.below b (by omega))
  replace HC0 := Bx.mk (HC0.out.below b (by omega))
  replace HC1 := Bx.mk (HC1.out.below b (by omega))
  clear b
  go_wp2_with fail
  have hB : Bx (Below w10.heap.size w10 w10.drew) := ⟨(Below.refl _ _).drew⟩
  have ka0_0_d : w10.drew.cell? _ = _ := ka0_0
  have ka0_1_d : w10.drew.cell? _ = _ := ka0_1
  have ka1_0_d : w10.drew.cell? _ = _ := ka1_0
  have ka1_1_d : w10.drew.cell? _ = _ := ka1_1
  have kx0_0_d : w10.drew.cell? _ = _ := kx0_0
  have kx0_1_d : w10.drew.cell? _ = _ := kx0_1
  have kx1_0_d : w10.drew.cell? _ = _ := kx1_0
  have kx1_1_d : w10.drew.cell? _ = _ := kx1_1
  go_region_held3 (fun w' => w'.cell? ⟨w.heap.size, 0, none⟩ = some (.int .i64 s0) ∧ w'.cell? ⟨w.heap.size, 1, none⟩ = some (.slice A0 xs0.length c0) ∧ w'.cell? ⟨w.heap.size + 1, 0, none⟩ = some (.int .i64 s1) ∧ w'.cell? ⟨w.heap.size + 1, 1, none⟩ = some (.slice A1 xs1.length c1) ∧ w'.cell? ⟨w6.heap.size, 0, none⟩ = some (.int .i64 s0) ∧ w'.cell? ⟨w6.heap.size, 1, none⟩ = some (.slice w6A xs0.length w6c) ∧ w'.cell? ⟨w7.heap.size, 0, none⟩ = some (.int .i64 s1) ∧ w'.cell? ⟨w7.heap.size, 1, none⟩ = some (.slice w7A xs1.length w7c) ∧ Bx (Below w10.heap.size w10 w'))
    (exact ⟨by assumption, by assumption, by assumption, by assumption, by assumption, by assumption, by assumption, by assumption, by assumption⟩)
    (first
      | (go_at_call 11; refine (toRhythm_any _ _ _ _ _ (by exact HX1.out.ir.below (Bx.out (by assumption)))).mono ?_; rintro e w11 ⟨w11A, w11c, rfl, w11io, bw11⟩; have hBw11 : Bx (Below w10.heap.size w10 w11) := ⟨Below.trans (Bx.out (by assumption)) (bw11.mono (by simp))⟩; have ka0_0_w11 := ((bcell hBw11.out).1 _ _ (by omega)).trans ka0_0; have ka0_1_w11 := ((bcell hBw11.out).1 _ _ (by omega)).trans ka0_1; have ka1_0_w11 := ((bcell hBw11.out).1 _ _ (by omega)).trans ka1_0; have ka1_1_w11 := ((bcell hBw11.out).1 _ _ (by omega)).trans ka1_1; have kx0_0_w11 := ((bcell hBw11.out).1 _ _ (by omega)).trans kx0_0; have kx0_1_w11 := ((bcell hBw11.out).1 _ _ (by omega)).trans kx0_1; have kx1_0_w11 := ((bcell hBw11.out).1 _ _ (by omega)).trans kx1_0; have kx1_1_w11 := ((bcell hBw11.out).1 _ _ (by omega)).trans kx1_1)
      | (go_at_call 13; refine (eqRhythm_any _ _ _ _ _ _ _ _ _ (by exact HC1.out.ir.below hBw11.out) (by exact w11io.reads)).mono ?_; rintro e w12 ⟨rfl, bw12⟩; have hBw12 : Bx (Below w10.heap.size w10 w12) := ⟨Below.trans hBw11.out (bw12.mono hBw11.out.size)⟩; have ka0_0_w12 := ((bcell hBw12.out).1 _ _ (by omega)).trans ka0_0; have ka0_1_w12 := ((bcell hBw12.out).1 _ _ (by omega)).trans ka0_1; have ka1_0_w12 := ((bcell hBw12.out).1 _ _ (by omega)).trans ka1_0; have ka1_1_w12 := ((bcell hBw12.out).1 _ _ (by omega)).trans ka1_1; have kx0_0_w12 := ((bcell hBw12.out).1 _ _ (by omega)).trans kx0_0; have kx0_1_w12 := ((bcell hBw12.out).1 _ _ (by omega)).trans kx0_1; have kx1_0_w12 := ((bcell hBw12.out).1 _ _ (by omega)).trans kx1_0; have kx1_1_w12 := ((bcell hBw12.out).1 _ _ (by omega)).trans kx1_1))
  have b := hBw12.out
  have zw12 := b.size
  replace bw := bw.trans (b.mono bw.size)
  replace ka0_0 := ((bcell b).1 _ _ (by omega)).trans ka0_0
  replace ka0_1 := ((bcell b).1 _ _ (by omega)).trans ka0_1
  replace ka1_0 := ((bcell b).1 _ _ (by omega)).trans ka1_0
  replace ka1_1 := ((bcell b).1 _ _ (by omega)).trans ka1_1
  replace kx0_0 := ((bcell b).1 _ _ (by omega)).trans kx0_0
  replace kx0_1 := ((bcell b).1 _ _ (by omega)).trans kx0_1
  replace kx1_0 := ((bcell b).1 _ _ (by omega)).trans kx1_0
  replace kx1_1 := ((bcell b).1 _ _ (by omega)).trans kx1_1
  replace HX0 := Bx.mk (HX0.out.below b (by omega))
  replace HX1 := Bx.mk (HX1.out.below b (by omega))
  replace HC0 := Bx.mk (HC0.out.below b (by omega))
  replace HC1 := Bx.mk (HC1.out.below b (by omega))
  clear b
  go_wp2_with fail
  go_ret
  exact ⟨rfl, bw⟩
end Go.Proofs.Ytbgfhbaaacmndaa
