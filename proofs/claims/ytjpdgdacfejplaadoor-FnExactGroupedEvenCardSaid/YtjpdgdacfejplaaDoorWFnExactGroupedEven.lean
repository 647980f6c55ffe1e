/- The law on GroupedEven, walked. -/
import Derived.Test.YtjpdgdacfejplaaDoorGeT
import Derived.Test.YtjpdgdacfejplaaDoorGeI
import Derived.Test.YtjpdgdacfejplaaDoorLawRh
import Derived.Test.YtjpdgdacfejplaaDoorBas
import Derived.Test.YtjpdgdacfejplaaDoorLawCn
import Derived.Deep.RegionHeld3
import Derived.Deep.DeepCutAuto
namespace Go.Proofs.YtjpdgdacfejplaaDoor
open Go.RowKit
set_option maxRecDepth 20000

set_option maxHeartbeats 4000000 in
set_option maxRecDepth 20000 in
theorem walkFnExactGroupedEven (w : World) (d0 : Int) (_hd0 : -9223372036854775808 ≤ d0 ∧ d0 ≤ 9223372036854775807) (d1 : Int) (_hd1 : -9223372036854775808 ≤ d1 ∧ d1 ≤ 9223372036854775807) :
    Calls Tryd.prog 3 #[.int .i64 d0, .int .i64 d1] w fun e w' => e = .returned (.bool true) ∧ Below w.heap.size w w' := by
  have bw : Below w.heap.size w w := Below.refl _ _
  go_enter Tryd.func3, Tryd.ntmps3
  go_wp2_with fail
  refine (specGe_any _ _ _).mono ?_
  rintro e w1 ⟨w1A, w1c, rfl, w1io, b⟩
  have zw1 := b.size
  replace bw := bw.trans (b.mono bw.size)
  clear b
  have HW := Bx.mk (OB.of (w1io.mono (by first | omega | (simp <;> omega) : w.heap.size ≤ _)) (Nat.le_refl _))
  clear w1io
  go_wp2_with fail
  refine (implGe_any _ _ _).mono ?_
  rintro e w2 ⟨w2A, w2c, rfl, w2io, b⟩
  have b' : Below w1.heap.size w1 w2 := (below_alloc _ _).trans (b.mono (by simp <;> omega))
  have kHW0 : w2.cell? ⟨w1.heap.size, 0, none⟩ = some (.int .i64 (geS d0 d1)) := ((bcell b).1 _ _ (by simp <;> omega)).trans (by simp [go_sem])
  have kHW1 : w2.cell? ⟨w1.heap.size, 1, none⟩ = some (.slice w1A (geL d0 d1).length w1c) := ((bcell b).1 _ _ (by simp <;> omega)).trans (by simp [go_sem])
  have zw2 : w1.heap.size + 1 ≤ w2.heap.size := by have := b.size; simp at this; omega
  replace bw := bw.trans (b'.mono bw.size)
  replace HW := Bx.mk (HW.out.below b' (by omega))
  clear b b'
  have HG := Bx.mk (OB.of (w2io.mono (by first | omega | (simp <;> omega) : w1.heap.size + 1 ≤ _)) (Nat.le_refl _))
  clear w2io
  have ltw2_0 : w1.heap.size < w2.heap.size := by omega
  go_wp2_with fail
  clear ltw2_0
  refine (eqRhythm_any _ _ _ _ _ _ _ _ _ (by exact HG.out.ir.alloc _) (by exact HW.out.ir.alloc _)).mono ?_
  rintro e w3 ⟨rfl, b⟩
  have b' : Below w2.heap.size w2 w3 := (below_alloc _ _).trans (b.mono (by simp <;> omega))
  have kHG0 : w3.cell? ⟨w2.heap.size, 0, none⟩ = some (.int .i64 (geS d0 d1)) := ((bcell b).1 _ _ (by simp <;> omega)).trans (by simp [go_sem])
  have kHG1 : w3.cell? ⟨w2.heap.size, 1, none⟩ = some (.slice w2A (geL d0 d1).length w2c) := ((bcell b).1 _ _ (by simp <;> omega)).trans (by simp [go_sem])
  have zw3 : w2.heap.size + 1 ≤ w3.heap.size := by have := b.size; simp at this; omega
  replace bw := bw.trans (b'.mono bw.size)
  replace kHW0 := ((bcell b').1 _ _ (by omega)).trans kHW0
  replace kHW1 := ((bcell b').1 _ _ (by omega)).trans kHW1
  replace HW := Bx.mk (HW.out.below b' (by omega))
  replace HG := Bx.mk (HG.out.below b' (by omega))
  clear b b'
  go_wp2_with fail
  refine (markRhythm_any _ _ _ _ _ _ _ (by exact HG.out.io) (by omega) (by omega)).mono ?_
  rintro e w4 ⟨rfl, m, o⟩
  have zw4 := o.size
  replace bw := bw.trans (HG.out.bl o (by omega) (by omega))
  replace kHW0 := (HG.out.cell o (by omega) (by omega)).trans kHW0
  replace kHW1 := (HG.out.cell o (by omega) (by omega)).trans kHW1
  replace kHG0 := (HG.out.cell o (by omega) (by omega)).trans kHG0
  replace kHG1 := (HG.out.cell o (by omega) (by omega)).trans kHG1
  replace HW := Bx.mk (HW.out.only o HG.out (by omega))
  replace HG := Bx.mk (HG.out.marked m)
  clear o m
  go_wp2_with fail
  refine (heldRhythm_any _ _ _ _ _ _ (by exact HG.out.ir) (by omega) (by omega)).mono ?_
  rintro e w5 ⟨rfl, b⟩
  have zw5 := b.size
  replace bw := bw.trans (b.mono bw.size)
  replace kHW0 := ((bcell b).1 _ _ (by omega)).trans kHW0
  replace kHW1 := ((bcell b).1 _ _ (by omega)).trans kHW1
  replace kHG0 := ((bcell b).1 _ _ (by omega)).trans kHG0
  replace kHG1 := ((bcell b).1 _ _ (by omega)).trans kHG1
  replace HW := Bx.mk (HW.out.below b (by omega))
  replace HG := Bx.mk (HG.out.below b (by omega))
  clear b
  go_wp2_with fail
  refine (implGe_any _ _ _).mono ?_
  rintro e w6 ⟨w6A, w6c, rfl, w6io, b⟩
  have zw6 := b.size
  replace bw := bw.trans (b.mono bw.size)
  replace kHW0 := ((bcell b).1 _ _ (by omega)).trans kHW0
  replace kHW1 := ((bcell b).1 _ _ (by omega)).trans kHW1
  replace kHG0 := ((bcell b).1 _ _ (by omega)).trans kHG0
  replace kHG1 := ((bcell b).1 _ _ (by omega)).trans kHG1
  replace HW := Bx.mk (HW.out.below b (by omega))
  replace HG := Bx.mk (HG.out.below b (by omega))
  clear b
  have HH := Bx.mk (OB.of (w6io.mono (by first | omega | (simp <;> omega) : w5.heap.size ≤ _)) (Nat.le_refl _))
  clear w6io
  have ltw6_0 : w1.heap.size < w6.heap.size := by omega
  have ltw6_1 : w2.heap.size < w6.heap.size := by omega
  go_wp2_with fail
  clear ltw6_0
  clear ltw6_1
  refine (eqRhythm_any _ _ _ _ _ _ _ _ _ (by exact HH.out.ir.alloc _) (by exact HW.out.ir.alloc _)).mono ?_
  rintro e w7 ⟨rfl, b⟩
  have b' : Below w6.heap.size w6 w7 := (below_alloc _ _).trans (b.mono (by simp <;> omega))
  have kHH0 : w7.cell? ⟨w6.heap.size, 0, none⟩ = some (.int .i64 (geS d0 d1)) := ((bcell b).1 _ _ (by simp <;> omega)).trans (by simp [go_sem])
  have kHH1 : w7.cell? ⟨w6.heap.size, 1, none⟩ = some (.slice w6A (geL d0 d1).length w6c) := ((bcell b).1 _ _ (by simp <;> omega)).trans (by simp [go_sem])
  have zw7 : w6.heap.size + 1 ≤ w7.heap.size := by have := b.size; simp at this; omega
  replace bw := bw.trans (b'.mono bw.size)
  replace kHW0 := ((bcell b').1 _ _ (by omega)).trans kHW0
  replace kHW1 := ((bcell b').1 _ _ (by omega)).trans kHW1
  replace kHG0 := ((bcell b').1 _ _ (by omega)).trans kHG0
  replace kHG1 := ((bcell b').1 _ _ (by omega)).trans kHG1
  replace HW := Bx.mk (HW.out.below b' (by omega))
  replace HG := Bx.mk (HG.out.below b' (by omega))
  replace HH := Bx.mk (HH.out.below b' (by omega))
  clear b b'
  go_wp2_with fail
  refine (heldRhythm_any _ _ _ _ _ _ (by exact HG.out.ir) (by omega) (by omega)).mono ?_
  rintro e w8 ⟨rfl, b⟩
  have zw8 := b.size
  replace bw := bw.trans (b.mono bw.size)
  replace kHW0 := ((bcell b).1 _ _ (by omega)).trans kHW0
  replace kHW1 := ((bcell b).1 _ _ (by omega)).trans kHW1
  replace kHG0 := ((bcell b).1 _ _ (by omega)).trans kHG0
  replace kHG1 := ((bcell b).1 _ _ (by omega)).trans kHG1
  replace kHH0 := ((bcell b).1 _ _ (by omega)).trans kHH0
  replace kHH1 := ((bcell b).1 _ _ (by omega)).trans kHH1
  replace HW := Bx.mk (HW.out.below b (by omega))
  replace HG := Bx.mk (HG.out.below b (by omega))
  replace HH := Bx.mk (HH.out.below b (by omega))
  clear b
  go_wp2_with fail
  go_ret
  exact ⟨rfl, bw⟩
end Go.Proofs.YtjpdgdacfejplaaDoor
