/- Whether a rhythm has a generator: both sides. -/
import Derived.Test.YtpejnhcmelkmeaaGens
namespace Go.Proofs.Ytpejnhcmelkmeaa
open Go.RowKit

def isGen (s : Int) (xs : List Int) : Bool := decide (0 < (gensR s xs).length)
set_option maxHeartbeats 1000000 in
theorem implIsGen_any (s : Int) (A : Option Addr) (c : Nat) (xs : List Int) (w : World) (hs : -9223372036854775808 ≤ s ∧ s ≤ 9223372036854775807) (hx : IR w A xs) : Calls Try.prog 13 #[.agg #[.int .i64 s, .slice A xs.length c]] w fun e w' => e = .returned (.bool (isGen s xs)) ∧ Below w.heap.size w w' := by
  obtain ⟨W0, hW0⟩ : ∃ W0, W0 = w.alloc (.cells #[.int .i64 s, .slice A xs.length c] 26) := ⟨_, rfl⟩
  have bw : Below w.heap.size w W0 := by rw [hW0]; exact below_alloc _ _
  have hz : w.heap.size < W0.heap.size := by rw [hW0]; simp
  have k0 : W0.cell? ⟨w.heap.size, 0, none⟩ = some (.int .i64 s) := by rw [hW0]; simp [go_sem]
  have k1 : W0.cell? ⟨w.heap.size, 1, none⟩ = some (.slice A xs.length c) := by rw [hW0]; simp [go_sem]
  have HX := Bx.mk ((RB.of_ir hx).below bw (Nat.le_refl _))
  have HS := Bx.mk hs
  clear hx hs
  have hsl := gensR_len s xs
  obtain ⟨L, hL⟩ : ∃ L, L = gensR s xs := ⟨_, rfl⟩
  have HST : Bx (∀ c W, IR W A xs → Calls Try.prog 9 #[.agg #[.int .i64 s, .slice A xs.length c]] W (GivesInts W L)) := ⟨fun c W h => by rw [hL]; exact implGens_any s A c xs W HS.out h⟩
  have HR : Bx (isGen s xs = decide (0 < L.length)) := ⟨by rw [hL]; rfl⟩
  rw [← hL] at hsl
  clear hL
  go_enter Try.func13, Try.ntmps13
  go_wp2_with fail
  rw [← hW0]
  clear hW0
  refine (HST.out _ _ (by exact HX.out.ir)).mono ?_
  rintro e w1 ⟨A1, c1, rfl, io, b⟩
  replace bw := bw.trans (b.mono bw.size)
  clear b io HST
  go_wp2_with fail
  go_ret
  exact ⟨by rw [HR.out]; exact ret_bool (by first | rfl | (rw [Bool.eq_iff_iff]; simp)), bw⟩
end Go.Proofs.Ytpejnhcmelkmeaa
