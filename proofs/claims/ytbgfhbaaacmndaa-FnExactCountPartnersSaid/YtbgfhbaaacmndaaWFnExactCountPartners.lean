/- The law on CountPartners, walked. -/
import Derived.Test.YtbgfhbaaacmndaaPtT
import Derived.Test.YtbgfhbaaacmndaaLawRh
import Derived.Test.YtbgfhbaaacmndaaFinRh
import Derived.Test.YtbgfhbaaacmndaaBas
import Derived.Test.YtbgfhbaaacmndaaLawCn
import Derived.Deep.RegionHeld3
import Derived.Deep.DeepCutAuto
namespace Go.Proofs.Ytbgfhbaaacmndaa
open Go.RowKit

set_option maxHeartbeats 4000000 in
set_option maxRecDepth 20000 in
theorem walkFnExactCountPartners (w : World) (s0 : Int) (hs0 : -9223372036854775808 ≤ s0 ∧ s0 ≤ 9223372036854775807) (A0 : Option Addr) (c0 : Nat) (xs0 : List Int) (ha0 : AR .i64 w A0 xs0) (_hf0 : Fits xs0) :
    Calls Try.prog 3 #[.agg #[.int .i64 s0, .slice A0 xs0.length c0]] w fun e w' => e = .returned (.bool true) ∧ Below w.heap.size w w' := by
  obtain ⟨W0, hW0⟩ : ∃ W0, W0 = (w.alloc (.cells #[.int .i64 s0, .slice A0 xs0.length c0] 24)) := ⟨_, rfl⟩
  have bw : Below w.heap.size w W0 := by rw [hW0]; exact (Below.refl _ _).alloc (by simp <;> omega) _
  have zW0 : w.heap.size + 1 ≤ W0.heap.size := by rw [hW0]; simp
  have ka0_0 : W0.cell? ⟨w.heap.size, 0, none⟩ = some (.int .i64 s0) := by rw [hW0]; simp [go_sem]
  have ka0_1 : W0.cell? ⟨w.heap.size, 1, none⟩ = some (.slice A0 xs0.length c0) := by rw [hW0]; simp [go_sem]
  have hml0 := ha0.1
  by_cases h0 : (xs0.length : Int) ≤ (1048576 : Int)
  rotate_left
  · have HN : Bx ((1048576 : Int) < (xs0.length : Int)) := ⟨by omega⟩
    go_enter Try.func3, Try.ntmps3
    go_wp2_with fail
    rw [← hW0]
    clear hW0
    refine (szRhythm_no _ _ _ _ hml0 _ (by omega) HN.out _).mono ?_
    rintro e w1 ⟨rfl, b⟩
    replace bw := bw.trans (b.mono bw.size)
    go_wp2_with fail
    go_ret
    exact ⟨rfl, bw⟩
  have HX0 := Bx.mk ((RB.of_ir (ha0.ir (by omega))).below bw (Nat.le_refl _))
  have HS0 := Bx.mk hs0
  clear ha0 hs0
  go_enter Try.func3, Try.ntmps3
  go_wp2_with fail
  rw [← hW0]
  clear hW0
  refine (szRhythm_yes _ _ _ _ hml0 _ (by omega) h0 _).mono ?_
  rintro e w1 ⟨rfl, b⟩
  have zw1 := b.size
  replace bw := bw.trans (b.mono bw.size)
  replace ka0_0 := ((bcell b).1 _ _ (by omega)).trans ka0_0
  replace ka0_1 := ((bcell b).1 _ _ (by omega)).trans ka0_1
  replace HX0 := Bx.mk (HX0.out.below b (by omega))
  clear b
  go_wp2_with fail
  refine (toRhythm_any _ _ _ _ _ (by exact HX0.out.ir)).mono ?_
  rintro e w2 ⟨w2A, w2c, rfl, w2io, b⟩
  have Hw2_0 := Bx.mk w2io.reads
  clear w2io
  have zw2 := b.size
  replace bw := bw.trans (b.mono bw.size)
  replace ka0_0 := ((bcell b).1 _ _ (by omega)).trans ka0_0
  replace ka0_1 := ((bcell b).1 _ _ (by omega)).trans ka0_1
  replace HX0 := Bx.mk (HX0.out.below b (by omega))
  clear b
  go_wp2_with fail
  refine (specCntPt_any _ _ _ _ _ HS0.out (by exact Hw2_0.out)).mono ?_
  rintro e w3 ⟨rfl, b⟩
  have zw3 := b.size
  replace bw := bw.trans (b.mono bw.size)
  replace ka0_0 := ((bcell b).1 _ _ (by omega)).trans ka0_0
  replace ka0_1 := ((bcell b).1 _ _ (by omega)).trans ka0_1
  replace HX0 := Bx.mk (HX0.out.below b (by omega))
  clear b
  clear Hw2_0
  go_wp2_with fail
  refine (toRhythm_any _ _ _ _ _ (by exact HX0.out.ir)).mono ?_
  rintro e w4 ⟨w4A, w4c, rfl, w4io, b⟩
  have zw4 := b.size
  replace bw := bw.trans (b.mono bw.size)
  replace ka0_0 := ((bcell b).1 _ _ (by omega)).trans ka0_0
  replace ka0_1 := ((bcell b).1 _ _ (by omega)).trans ka0_1
  replace HX0 := Bx.mk (HX0.out.below b (by omega))
  clear b
  have HC0 := Bx.mk (OB.of (w4io.mono (by first | omega | (simp <;> omega) : w3.heap.size ≤ _)) (Nat.le_refl _))
  clear w4io
  have ltw4_0 : w.heap.size < w4.heap.size := by omega
  go_wp2_with fail
  clear ltw4_0
  refine (implCntPt_any _ _ _ _ _ HS0.out (by exact HC0.out.ir.alloc _)).mono ?_
  rintro e w5 ⟨rfl, b⟩
  have b' : Below w4.heap.size w4 w5 := (below_alloc _ _).trans (b.mono (by simp <;> omega))
  have kx0_0 : w5.cell? ⟨w4.heap.size, 0, none⟩ = some (.int .i64 s0) := ((bcell b).1 _ _ (by simp <;> omega)).trans (by simp [go_sem])
  have kx0_1 : w5.cell? ⟨w4.heap.size, 1, none⟩ = some (.slice w4A xs0.length w4c) := ((bcell b).1 _ _ (by simp <;> omega)).trans (by simp [go_sem])
  have zw5 : w4.heap.size + 1 ≤ w5.heap.size := by have := b.size; simp at this; omega
  replace bw := bw.trans (b'.mono bw.size)
  replace ka0_0 := ((bcell b').1 _ _ (by omega)).trans ka0_0
  replace ka0_1 := ((bcell b').1 _ _ (by omega)).trans ka0_1
  replace HX0 := Bx.mk (HX0.out.below b' (by omega))
  replace HC0 := Bx.mk (HC0.out.below b' (by omega))
  clear b b'
  go_wp2_with fail
  have hB : Bx (Below w5.heap.size w5 w5.drew) := ⟨(Below.refl _ _).drew⟩
  have ka0_0_d : w5.drew.cell? _ = _ := ka0_0
  have ka0_1_d : w5.drew.cell? _ = _ := ka0_1
  have kx0_0_d : w5.drew.cell? _ = _ := kx0_0
  have kx0_1_d : w5.drew.cell? _ = _ := kx0_1
  go_region_held3 (fun w' => w'.cell? ⟨w.heap.size, 0, none⟩ = some (.int .i64 s0) ∧ w'.cell? ⟨w.heap.size, 1, none⟩ = some (.slice A0 xs0.length c0) ∧ w'.cell? ⟨w4.heap.size, 0, none⟩ = some (.int .i64 s0) ∧ w'.cell? ⟨w4.heap.size, 1, none⟩ = some (.slice w4A xs0.length w4c) ∧ Bx (Below w5.heap.size w5 w'))
    (exact ⟨by assumption, by assumption, by assumption, by assumption, by assumption⟩)
    (first
      | (go_at_call 11; refine (toRhythm_any _ _ _ _ _ (by exact HX0.out.ir.below (Bx.out (by assumption)))).mono ?_; rintro e w6 ⟨w6A, w6c, rfl, w6io, bw6⟩; have hBw6 : Bx (Below w5.heap.size w5 w6) := ⟨Below.trans (Bx.out (by assumption)) (bw6.mono (by simp))⟩; have ka0_0_w6 := ((bcell hBw6.out).1 _ _ (by omega)).trans ka0_0; have ka0_1_w6 := ((bcell hBw6.out).1 _ _ (by omega)).trans ka0_1; have kx0_0_w6 := ((bcell hBw6.out).1 _ _ (by omega)).trans kx0_0; have kx0_1_w6 := ((bcell hBw6.out).1 _ _ (by omega)).trans kx0_1)
      | (go_at_call 13; refine (eqRhythm_any _ _ _ _ _ _ _ _ _ (by exact HC0.out.ir.below hBw6.out) (by exact w6io.reads)).mono ?_; rintro e w7 ⟨rfl, bw7⟩; have hBw7 : Bx (Below w5.heap.size w5 w7) := ⟨Below.trans hBw6.out (bw7.mono hBw6.out.size)⟩; have ka0_0_w7 := ((bcell hBw7.out).1 _ _ (by omega)).trans ka0_0; have ka0_1_w7 := ((bcell hBw7.out).1 _ _ (by omega)).trans ka0_1; have kx0_0_w7 := ((bcell hBw7.out).1 _ _ (by omega)).trans kx0_0; have kx0_1_w7 := ((bcell hBw7.out).1 _ _ (by omega)).trans kx0_1))
  have b := hBw7.out
  have zw7 := b.size
  replace bw := bw.trans (b.mono bw.size)
  replace ka0_0 := ((bcell b).1 _ _ (by omega)).trans ka0_0
  replace ka0_1 := ((bcell b).1 _ _ (by omega)).trans ka0_1
  replace kx0_0 := ((bcell b).1 _ _ (by omega)).trans kx0_0
  replace kx0_1 := ((bcell b).1 _ _ (by omega)).trans kx0_1
  replace HX0 := Bx.mk (HX0.out.below b (by omega))
  replace HC0 := Bx.mk (HC0.out.below b (by omega))
  clear b
  go_wp2_with fail
  go_ret
  exact ⟨rfl, bw⟩
end Go.Proofs.Ytbgfhbaaacmndaa
