/- The law on HasOddity, walked. -/
import Derived.Test.YtiiiejkolodjpaaOddity
import Derived.Test.YtiiiejkolodjpaaLawRh
import Derived.Test.YtiiiejkolodjpaaFinRh
import Derived.Deep.RegionHeld3
namespace Go.Proofs.Ytiiiejkolodjpaa
open Go.RowKit

set_option maxHeartbeats 4000000 in
theorem walkFnExactHasOddity (w : World) (s0 : Int) (hs0 : -9223372036854775808 ≤ s0 ∧ s0 ≤ 9223372036854775807) (A0 : Option Addr) (c0 : Nat) (xs0 : List Int) (ha0 : AR .i64 w A0 xs0) (_hf0 : Fits xs0) :
    Calls Try.prog 4 #[.agg #[.int .i64 s0, .slice A0 xs0.length c0]] w fun e w' => e = .returned (.bool true) ∧ Below w.heap.size w w' := by
  obtain ⟨W0, hW0⟩ : ∃ W0, W0 = (w.alloc (.cells #[.int .i64 s0, .slice A0 xs0.length c0] 24)) := ⟨_, rfl⟩
  have bw0 : Below w.heap.size w W0 := by rw [hW0]; exact (Below.refl _ _).alloc (by simp <;> omega) _
  have hk : w.heap.size + 1 ≤ W0.heap.size := by rw [hW0]; simp
  have ka0 : W0.cell? ⟨w.heap.size, 0, none⟩ = some (.int .i64 s0) := by rw [hW0]; simp [go_sem]
  have kb0 : W0.cell? ⟨w.heap.size, 1, none⟩ = some (.slice A0 xs0.length c0) := by rw [hW0]; simp [go_sem]
  have hml0 := ha0.1
  by_cases h0 : (xs0.length : Int) ≤ (1048576 : Int)
  rotate_left
  · have HN : Bx ((1048576 : Int) < (xs0.length : Int)) := ⟨by omega⟩
    go_enter Try.func4, Try.ntmps4
    go_wp2_with fail
    rw [← hW0]
    clear hW0
    refine (szRhythm_no _ _ _ _ hml0 _ (by omega) HN.out _).mono ?_
    rintro e w1 ⟨rfl, b1⟩
    go_wp2_with fail
    go_ret
    exact ⟨rfl, bw0.trans (b1.mono bw0.size)⟩
  have HX0 := Bx.mk ((ha0.ir (by omega)).below bw0)
  have HS0 := Bx.mk hs0
  clear ha0 hs0
  go_enter Try.func4, Try.ntmps4
  go_wp2_with fail
  rw [← hW0]
  clear hW0
  refine (szRhythm_yes _ _ _ _ hml0 _ (by omega) h0 _).mono ?_
  rintro e w1 ⟨rfl, b⟩
  replace bw0 := bw0.trans (b.mono bw0.size)
  replace ka0 := ((bcell b).1 _ _ (by omega)).trans ka0
  replace kb0 := ((bcell b).1 _ _ (by omega)).trans kb0
  replace hk := Nat.le_trans hk b.size
  replace HX0 := Bx.mk (HX0.out.below b)
  clear b
  go_wp2_with fail
  refine (toRhythm_any _ _ _ _ _ (by exact HX0.out)).mono ?_
  rintro e w2 ⟨w2A, w2c, rfl, w2io, b⟩
  have Hw2 := Bx.mk w2io.reads
  clear w2io
  replace bw0 := bw0.trans (b.mono bw0.size)
  replace ka0 := ((bcell b).1 _ _ (by omega)).trans ka0
  replace kb0 := ((bcell b).1 _ _ (by omega)).trans kb0
  replace hk := Nat.le_trans hk b.size
  replace HX0 := Bx.mk (HX0.out.below b)
  clear b
  go_wp2_with fail
  refine (specOddity_any _ _ _ _ _ HS0.out (by exact Hw2.out)).mono ?_
  rintro e w3 ⟨rfl, b⟩
  replace bw0 := bw0.trans (b.mono bw0.size)
  replace ka0 := ((bcell b).1 _ _ (by omega)).trans ka0
  replace kb0 := ((bcell b).1 _ _ (by omega)).trans kb0
  replace hk := Nat.le_trans hk b.size
  replace HX0 := Bx.mk (HX0.out.below b)
  clear b Hw2
  go_wp2_with fail
  refine (toRhythm_any _ _ _ _ _ (by exact HX0.out)).mono ?_
  rintro e w4 ⟨w4A, w4c, rfl, w4io, b'⟩
  replace bw0 := bw0.trans (b'.mono bw0.size)
  replace ka0 := ((bcell b').1 _ _ (by omega)).trans ka0
  replace kb0 := ((bcell b').1 _ _ (by omega)).trans kb0
  replace hk := Nat.le_trans hk b'.size
  replace HX0 := Bx.mk (HX0.out.below b')
  clear b'
  have Iw4 := Bx.mk w4io
  clear w4io
  go_wp2_with fail
  refine (implOddity_any _ _ _ _ _ HS0.out (by exact Iw4.out.reads.alloc _)).mono ?_
  rintro e w5 ⟨rfl, b'⟩
  have b : Below w4.heap.size w4 w5 := (below_alloc _ _).trans (b'.mono (by simp))
  have xa0 : w5.cell? ⟨w4.heap.size, 0, none⟩ = some (.int .i64 s0) := ((bcell b').1 _ _ (by simp)).trans (by simp [go_sem])
  have xb0 : w5.cell? ⟨w4.heap.size, 1, none⟩ = some (.slice w4A xs0.length w4c) := ((bcell b').1 _ _ (by simp)).trans (by simp [go_sem])
  have hx0 : w4.heap.size + 1 ≤ w5.heap.size := by have := b'.size; simpa using this
  replace bw0 := bw0.trans (b.mono bw0.size)
  replace ka0 := ((bcell b).1 _ _ (by omega)).trans ka0
  replace kb0 := ((bcell b).1 _ _ (by omega)).trans kb0
  replace hk := Nat.le_trans hk b.size
  replace HX0 := Bx.mk (HX0.out.below b)
  replace Iw4 := Bx.mk (Iw4.out.below b (Nat.le_refl _))
  clear b b'
  go_wp2_with fail
  have hB : Bx (Below w5.heap.size w5 w5.drew) := ⟨(Below.refl _ _).drew⟩
  have ka0_d : w5.drew.cell? _ = _ := ka0
  have kb0_d : w5.drew.cell? _ = _ := kb0
  have xa0_d : w5.drew.cell? _ = _ := xa0
  have xb0_d : w5.drew.cell? _ = _ := xb0
  go_region_held3 (fun w' => w'.cell? ⟨w.heap.size, 0, none⟩ = some (.int .i64 s0) ∧ w'.cell? ⟨w.heap.size, 1, none⟩ = some (.slice A0 xs0.length c0) ∧ w'.cell? ⟨w4.heap.size, 0, none⟩ = some (.int .i64 s0) ∧ w'.cell? ⟨w4.heap.size, 1, none⟩ = some (.slice w4A xs0.length w4c) ∧ Bx (Below w5.heap.size w5 w'))
    (exact ⟨by assumption, by assumption, by assumption, by assumption, by assumption⟩)
    (first
      | (go_at_call 17; refine (toRhythm_any _ _ _ _ _ (by exact HX0.out.below (Bx.out (by assumption)))).mono ?_; rintro e w6 ⟨w6A, w6c, rfl, w6io, bw6⟩; have hB6 : Bx (Below w5.heap.size w5 w6) := ⟨Below.trans (Bx.out (by assumption)) (bw6.mono (by simp))⟩; have ka0_w6 := ((bcell hB6.out).1 _ _ (by omega)).trans ka0; have kb0_w6 := ((bcell hB6.out).1 _ _ (by omega)).trans kb0; have xa0_w6 := ((bcell hB6.out).1 _ _ (by omega)).trans xa0; have xb0_w6 := ((bcell hB6.out).1 _ _ (by omega)).trans xb0)
      | (go_at_call 19; refine (eqRhythm_any _ _ _ _ _ _ _ _ _ (by exact Iw4.out.reads.below hB6.out) (by exact w6io.reads)).mono ?_; rintro e w7 ⟨rfl, bw7⟩; have hB7 : Bx (Below w5.heap.size w5 w7) := ⟨Below.trans hB6.out (bw7.mono hB6.out.size)⟩; have ka0_w7 := ((bcell hB7.out).1 _ _ (by omega)).trans ka0; have kb0_w7 := ((bcell hB7.out).1 _ _ (by omega)).trans kb0; have xa0_w7 := ((bcell hB7.out).1 _ _ (by omega)).trans xa0; have xb0_w7 := ((bcell hB7.out).1 _ _ (by omega)).trans xb0))
  replace bw0 := bw0.trans (hB7.out.mono bw0.size)
  replace ka0 := ((bcell hB7.out).1 _ _ (by omega)).trans ka0
  replace kb0 := ((bcell hB7.out).1 _ _ (by omega)).trans kb0
  replace xa0 := ((bcell hB7.out).1 _ _ (by omega)).trans xa0
  replace xb0 := ((bcell hB7.out).1 _ _ (by omega)).trans xb0
  replace hk := Nat.le_trans hk hB7.out.size
  replace hx0 := Nat.le_trans hx0 hB7.out.size
  replace HX0 := Bx.mk (HX0.out.below hB7.out)
  replace Iw4 := Bx.mk (Iw4.out.below hB7.out (Nat.le_refl _))
  go_wp2_with fail
  go_ret
  exact ⟨rfl, bw0⟩
end Go.Proofs.Ytiiiejkolodjpaa
