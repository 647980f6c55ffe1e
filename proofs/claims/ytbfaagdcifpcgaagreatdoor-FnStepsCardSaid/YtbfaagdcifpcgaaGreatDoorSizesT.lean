/- The sizes of the steps of a rhythm: how many, and whether the greatest is a sum. -/
import Derived.Test.YtbfaagdcifpcgaaGreatDoorSizes
import Derived.Test.YtbfaagdcifpcgaaGreatDoorSteps
namespace Go.Proofs.YtbfaagdcifpcgaaGreatDoor
open Go.RowKit
set_option maxRecDepth 20000

def sizesR (s : Int) (xs : List Int) : List Int := coll (stepsR s xs)
theorem sizesR_len (s : Int) (xs : List Int) : (sizesR s xs).length ≤ 24 := Nat.le_trans (coll_len _) (stepsR_len s xs)
theorem sizesR_bd {s : Int} {xs : List Int} : ∀ x ∈ sizesR s xs, -24 ≤ x ∧ x ≤ 48 := coll_bd stepsR_bd
def sumB (L : List Int) : Bool := decide (L.length ≤ 2) || (decide (L.length = 3) && decide (L[2]?.getD 0 = L[0]?.getD 0 + L[1]?.getD 0))
set_option maxHeartbeats 1000000 in
theorem implStepSizes_any (s : Int) (A : Option Addr) (c : Nat) (xs : List Int) (w : World) (hs : -9223372036854775808 ≤ s ∧ s ≤ 9223372036854775807) (hx : IR w A xs) : Calls Tryz.prog 18 #[.agg #[.int .i64 s, .slice A xs.length c]] w (GivesInts w (sizesR s xs)) := by
  obtain ⟨W0, hW0⟩ : ∃ W0, W0 = w.alloc (.cells #[.int .i64 s, .slice A xs.length c] 25) := ⟨_, rfl⟩
  have bw : Below w.heap.size w W0 := by rw [hW0]; exact below_alloc _ _
  have hz : w.heap.size < W0.heap.size := by rw [hW0]; simp
  have k0 : W0.cell? ⟨w.heap.size, 0, none⟩ = some (.int .i64 s) := by rw [hW0]; simp [go_sem]
  have k1 : W0.cell? ⟨w.heap.size, 1, none⟩ = some (.slice A xs.length c) := by rw [hW0]; simp [go_sem]
  have HX := Bx.mk ((RB.of_ir hx).below bw (Nat.le_refl _))
  have HS := Bx.mk hs
  clear hx hs
  have hsl := stepsR_len s xs
  have hsl2 : (stepsR s xs).length ≤ 1000000 := by omega
  go_enter Tryz.func18, Tryz.ntmps18
  go_wp2_with fail
  rw [← hW0]
  clear hW0
  refine (implSteps_any _ _ _ _ _ HS.out (by exact HX.out.ir)).mono ?_
  rintro e w1 ⟨v, rfl, hr, b⟩
  have hb := b.size
  have HO := Bx.mk hr
  replace bw := bw.trans (b.mono bw.size)
  clear hr b
  go_wp2_with fail
  refine (collected_row _ _ _ _ HO.out hsl2).mono ?_
  rintro e w2 ⟨A2, c2, rfl, io, b⟩
  have HIO : Bx (IO w2 w.heap.size A2 c2 (sizesR s xs)) := ⟨io.mono (by omega)⟩
  have HF := Bx.mk (bw.trans (b.mono (by omega)))
  clear io b
  go_wp2_with fail
  go_ret
  exact ⟨A2, c2, rfl, HIO.out, HF.out⟩
end Go.Proofs.YtbfaagdcifpcgaaGreatDoor
