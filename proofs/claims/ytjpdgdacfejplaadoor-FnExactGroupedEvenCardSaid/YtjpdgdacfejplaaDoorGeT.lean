/- Even rhythms by groups: the reference, of any numbers. -/
import Derived.Test.YtjpdgdacfejplaaDoorGeS
namespace Go.Proofs.YtjpdgdacfejplaaDoor
open Go.RowKit
set_option maxRecDepth 20000

set_option maxHeartbeats 1000000 in
theorem specGe_any (k n : Int) (w : World) :
    Calls Tryd.prog 4 #[.int .i64 k, .int .i64 n] w (GivesRB w (geS k n) (geL k n) (geOk k n)) := by
  by_cases h1 : inB n 1 24 = true
  · have b1 := inB_iff.1 h1
    by_cases h2 : inB k 0 n = true
    · have b2 := inB_iff.1 h2
      obtain ⟨n', rfl⟩ := Int.eq_ofNat_of_zero_le (show 0 ≤ n by omega)
      obtain ⟨k', rfl⟩ := Int.eq_ofNat_of_zero_le (show 0 ≤ k by omega)
      exact specGe_in k' n' (by omega) (by omega) (by omega) w
    · have HN : Bx (geOk k n = false) := ⟨by rw [inB_iff] at h2; unfold geOk; rw [decide_eq_false_iff_not]; omega⟩
      rw [Bool.not_eq_true] at h2
      obtain ⟨W0, hW0⟩ : ∃ W0, W0 = w.alloc (.cells #[.int .i64 0, .slice none 0 0] 24) := ⟨_, rfl⟩
      have bw : Below w.heap.size w W0 := by rw [hW0]; exact below_alloc _ _
      have hz : w.heap.size < W0.heap.size := by rw [hW0]; simp
      have R0 : Blk W0 w.heap.size 24 #[.int .i64 0, .slice none 0 0] := by rw [hW0]; exact Blk.new w _ _
      go_enter Tryd.func4, Tryd.ntmps4
      go_wp2_with fail
      rw [← hW0]
      clear hW0
      have cr0 := R0.at_ (i := 0) rfl
      have cr1 := R0.at_ (i := 1) rfl
      have fr0 := R0.frozen 0
      have fr1 := R0.frozen 1
      have RF := Bx.mk ((R0.set 0 (.int .i64 0)).set 1 (.slice none 0 0))
      have BF := Bx.mk ((bw.setCell (p := ⟨w.heap.size, 0, none⟩) (show w.heap.size ≤ w.heap.size by omega) (.int .i64 0)).setCell (p := ⟨w.heap.size, 1, none⟩) (show w.heap.size ≤ w.heap.size by omega) (.slice none 0 0))
      clear R0
      go_wp2_with (go_at_call 9; refine (l06OkG_any _ _ _).mono ?_; rintro e w' ⟨rfl, rfl⟩)
      exact bodyPost_ret (v := .tuple #[.agg #[.int .i64 0, .slice none 0 0], .bool false]) (by simp [results, Tryd.results4, go_sem, RF.out.at_ (i := 0) rfl, RF.out.at_ (i := 1) rfl]) rfl (GivesRB.geno HN.out BF.out)
  · have HN : Bx (geOk k n = false) := ⟨by rw [inB_iff] at h1; unfold geOk; rw [decide_eq_false_iff_not]; omega⟩
    rw [Bool.not_eq_true] at h1
    obtain ⟨W0, hW0⟩ : ∃ W0, W0 = w.alloc (.cells #[.int .i64 0, .slice none 0 0] 24) := ⟨_, rfl⟩
    have bw : Below w.heap.size w W0 := by rw [hW0]; exact below_alloc _ _
    have hz : w.heap.size < W0.heap.size := by rw [hW0]; simp
    have R0 : Blk W0 w.heap.size 24 #[.int .i64 0, .slice none 0 0] := by rw [hW0]; exact Blk.new w _ _
    go_enter Tryd.func4, Tryd.ntmps4
    go_wp2_with fail
    rw [← hW0]
    clear hW0
    have cr0 := R0.at_ (i := 0) rfl
    have cr1 := R0.at_ (i := 1) rfl
    have fr0 := R0.frozen 0
    have fr1 := R0.frozen 1
    have RF := Bx.mk ((R0.set 0 (.int .i64 0)).set 1 (.slice none 0 0))
    have BF := Bx.mk ((bw.setCell (p := ⟨w.heap.size, 0, none⟩) (show w.heap.size ≤ w.heap.size by omega) (.int .i64 0)).setCell (p := ⟨w.heap.size, 1, none⟩) (show w.heap.size ≤ w.heap.size by omega) (.slice none 0 0))
    clear R0
    go_wp2_with (go_at_call 9; refine (l06OkG_any _ _ _).mono ?_; rintro e w' ⟨rfl, rfl⟩)
    exact bodyPost_ret (v := .tuple #[.agg #[.int .i64 0, .slice none 0 0], .bool false]) (by simp [results, Tryd.results4, go_sem, RF.out.at_ (i := 0) rfl, RF.out.at_ (i := 1) rfl]) rfl (GivesRB.geno HN.out BF.out)
end Go.Proofs.YtjpdgdacfejplaaDoor
