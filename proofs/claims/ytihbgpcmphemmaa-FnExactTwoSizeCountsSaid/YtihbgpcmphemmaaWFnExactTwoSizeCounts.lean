/- The law on TwoSizeCounts, walked. -/
import Derived.Test.YtihbgpcmphemmaaTsc
import Derived.Test.YtihbgpcmphemmaaLawRh
import Derived.Test.YtihbgpcmphemmaaFinRh
import Derived.Test.YtihbgpcmphemmaaBas
import Derived.Test.YtihbgpcmphemmaaLawCn
import Derived.Deep.RegionHeld3
import Derived.Deep.DeepCutAuto
namespace Go.Proofs.Ytihbgpcmphemmaa
open Go.RowKit

set_option maxHeartbeats 4000000 in
set_option maxRecDepth 20000 in
theorem walkFnExactTwoSizeCounts (w : World) (d0 : Int) (_hd0 : -9223372036854775808 ≤ d0 ∧ d0 ≤ 9223372036854775807) (d1 : Int) (_hd1 : -9223372036854775808 ≤ d1 ∧ d1 ≤ 9223372036854775807) :
    Calls Try.prog 9 #[.int .i64 d0, .int .i64 d1] w fun e w' => e = .returned (.bool true) ∧ Below w.heap.size w w' := by
  have bw : Below w.heap.size w w := Below.refl _ _
  go_enter Try.func9, Try.ntmps9
  go_wp2_with fail
  refine (specTsc_any _ _ _).mono ?_
  rintro e w1 ⟨w1A, w1c, rfl, w1io, b⟩
  have zw1 := b.size
  replace bw := bw.trans (b.mono bw.size)
  clear b
  have HW := Bx.mk (OB.of (w1io.mono (by first | omega | (simp <;> omega) : w.heap.size ≤ _)) (Nat.le_refl _))
  clear w1io
  go_wp2_with fail
  refine (implTsc_any _ _ _).mono ?_
  rintro e w2 ⟨w2A, w2c, rfl, w2io, b⟩
  have zw2 := b.size
  replace bw := bw.trans (b.mono bw.size)
  replace HW := Bx.mk (HW.out.below b (by omega))
  clear b
  have HG := Bx.mk (OB.of (w2io.mono (by first | omega | (simp <;> omega) : w1.heap.size ≤ _)) (Nat.le_refl _))
  clear w2io
  go_wp2_with fail
  refine (eqIntS_b _ _ _ _ _ _ _ (by exact HG.out.ir) (by exact HW.out.ir)).mono ?_
  rintro e w3 ⟨rfl, b⟩
  have zw3 := b.size
  replace bw := bw.trans (b.mono bw.size)
  replace HW := Bx.mk (HW.out.below b (by omega))
  replace HG := Bx.mk (HG.out.below b (by omega))
  clear b
  go_wp2_with fail
  refine (markIntS_any _ _ _ _ _ _ (by exact HG.out.io) (by omega) (by omega)).mono ?_
  rintro e w4 ⟨rfl, m, o⟩
  have zw4 := o.size
  replace bw := bw.trans (HG.out.bl o (by omega) (by omega))
  replace HW := Bx.mk (HW.out.only o HG.out (by omega))
  replace HG := Bx.mk (HG.out.marked m)
  clear o m
  go_wp2_with fail
  refine (heldIntS_b _ _ _ _ _ (by exact HG.out.ir) (by omega) (by omega)).mono ?_
  rintro e w5 ⟨rfl, b⟩
  have zw5 := b.size
  replace bw := bw.trans (b.mono bw.size)
  replace HW := Bx.mk (HW.out.below b (by omega))
  replace HG := Bx.mk (HG.out.below b (by omega))
  clear b
  go_wp2_with fail
  refine (implTsc_any _ _ _).mono ?_
  rintro e w6 ⟨w6A, w6c, rfl, w6io, b⟩
  have zw6 := b.size
  replace bw := bw.trans (b.mono bw.size)
  replace HW := Bx.mk (HW.out.below b (by omega))
  replace HG := Bx.mk (HG.out.below b (by omega))
  clear b
  have HH := Bx.mk (OB.of (w6io.mono (by first | omega | (simp <;> omega) : w5.heap.size ≤ _)) (Nat.le_refl _))
  clear w6io
  go_wp2_with fail
  refine (eqIntS_b _ _ _ _ _ _ _ (by exact HH.out.ir) (by exact HW.out.ir)).mono ?_
  rintro e w7 ⟨rfl, b⟩
  have zw7 := b.size
  replace bw := bw.trans (b.mono bw.size)
  replace HW := Bx.mk (HW.out.below b (by omega))
  replace HG := Bx.mk (HG.out.below b (by omega))
  replace HH := Bx.mk (HH.out.below b (by omega))
  clear b
  go_wp2_with fail
  refine (heldIntS_b _ _ _ _ _ (by exact HG.out.ir) (by omega) (by omega)).mono ?_
  rintro e w8 ⟨rfl, b⟩
  have zw8 := b.size
  replace bw := bw.trans (b.mono bw.size)
  replace HW := Bx.mk (HW.out.below b (by omega))
  replace HG := Bx.mk (HG.out.below b (by omega))
  replace HH := Bx.mk (HH.out.below b (by omega))
  clear b
  go_wp2_with fail
  go_ret
  exact ⟨rfl, bw⟩
end Go.Proofs.Ytihbgpcmphemmaa
