/- The reference's rotation of a rhythm. -/
import Derived.Test.YtpejnhcmelkmeaaDiff
import Derived.Test.YtpejnhcmelkmeaaBas
import Derived.Test.YtpejnhcmelkmeaaRts
namespace Go.Proofs.Ytpejnhcmelkmeaa
open Go.RowKit

set_option maxHeartbeats 1000000 in
theorem specRotate_ok (s : Int) (A : Option Addr) (c : Nat) (xs : List Int) (k : Int) (w : World) (hok : rhOk s xs = true) (hx : IR w A xs) (hk : -1000 ≤ k ∧ k ≤ 1000) :
    Calls Try.prog 8 #[.agg #[.int .i64 s, .slice A xs.length c], .int .i64 k] w (GivesRB w s (rotL s xs k) true) := by
  obtain ⟨⟨hs1, hs2⟩, hxb, _⟩ := rhOk_iff.1 hok
  have HXB := Bx.mk hxb
  have hll := (rhOk_len hok).1
  obtain ⟨W0, hW0⟩ : ∃ W0, W0 = (w.alloc (.cells #[.int .i64 s, .slice A xs.length c] 26)).alloc (.cells #[.int .i64 0, .slice none 0 0] 26) := ⟨_, rfl⟩
  have bw : Below w.heap.size w W0 := by rw [hW0]; exact (below_alloc _ _).alloc (by simp) _
  have hz : w.heap.size < W0.heap.size := by rw [hW0]; simp <;> omega
  have R0 : Blk W0 (w.heap.size + 1) 26 #[.int .i64 0, .slice none 0 0] := by rw [hW0]; have := Blk.new (w.alloc (.cells #[.int .i64 s, .slice A xs.length c] 26)) 26 #[.int .i64 0, .slice none 0 0]; simpa using this
  have hz2 : w.heap.size + 1 < W0.heap.size := by rw [hW0]; simp <;> omega
  have hin : inB k (-1000) 1000 = true := inB_yes hk
  have k0 : W0.cell? ⟨w.heap.size, 0, none⟩ = some (.int .i64 s) := by rw [hW0]; simp [go_sem]
  have k1 : W0.cell? ⟨w.heap.size, 1, none⟩ = some (.slice A xs.length c) := by rw [hW0]; simp [go_sem]
  have HX := Bx.mk ((RB.of_ir hx).below bw (Nat.le_refl _))
  have HOK := Bx.mk hok
  have HS : Bx (-9223372036854775808 ≤ s ∧ s ≤ 9223372036854775807) := ⟨by omega⟩
  clear hx hxb
  go_enter Try.func8, Try.ntmps8
  go_wp2_with fail
  rw [← hW0]
  clear hW0
  refine (lit_b hok (specRhythmOk_any _ _ _ _ _ HS.out (by exact HX.out.ir))).mono ?_
  clear hok
  rintro e w1 ⟨rfl, b⟩
  replace k0 := ((bcell b).1 _ _ (by omega)).trans k0
  replace k1 := ((bcell b).1 _ _ (by omega)).trans k1
  replace HX := Bx.mk (HX.out.below b (by omega))
  replace bw := bw.trans (b.mono bw.size)
  replace R0 := R0.below b hz2
  have hz3 : w.heap.size + 2 ≤ w1.heap.size := by have := b.size; omega
  clear b
  go_wp2_with (go_at_call 29; refine (l01In_any _ _ _ _).mono ?_; rintro e w' ⟨rfl, rfl⟩)
  refine (l02Map_any _ _ _ _ _ _ ⟨hs1, hs2⟩ (fun x hx => by have := HXB.out x hx; omega) (by omega) (by omega) (by exact HX.out.ir)).mono ?_
  rintro e w2 ⟨A2, c2, rfl, io, b⟩
  replace R0 := R0.below b (by omega)
  have cr0 := R0.at_ (i := 0) rfl
  have cr1 := R0.at_ (i := 1) rfl
  have fr0 := R0.frozen 0
  have fr1 := R0.frozen 1
  replace bw := bw.trans (b.mono bw.size)
  have RF := Bx.mk ((R0.set 0 (.int .i64 s)).set 1 (.slice A2 (rotL s xs k).length c2))
  have BF := Bx.mk ((bw.setCell (p := ⟨w.heap.size + 1, 0, none⟩) (show w.heap.size ≤ w.heap.size + 1 by omega) (.int .i64 s)).setCell (p := ⟨w.heap.size + 1, 1, none⟩) (show w.heap.size ≤ w.heap.size + 1 by omega) (.slice A2 (rotL s xs k).length c2))
  have HIO := Bx.mk ((io.setLow (p := ⟨w.heap.size + 1, 0, none⟩) (show w.heap.size + 1 < w1.heap.size by omega) (.int .i64 s)).setLow (p := ⟨w.heap.size + 1, 1, none⟩) (show w.heap.size + 1 < w1.heap.size by omega) (.slice A2 (rotL s xs k).length c2))
  clear R0 io b
  generalize rotL s xs k = L at *
  go_wp2_with fail
  exact bodyPost_ret (v := .tuple #[.agg #[.int .i64 s, .slice A2 L.length c2], .bool true]) (by simp [results, Try.results8, go_sem, RF.out.at_ (i := 0) rfl, RF.out.at_ (i := 1) rfl]) rfl ⟨A2, c2, rfl, HIO.out.mono (by omega), BF.out⟩
end Go.Proofs.Ytpejnhcmelkmeaa
