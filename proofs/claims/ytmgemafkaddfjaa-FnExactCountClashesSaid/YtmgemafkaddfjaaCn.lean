/- Whether a canon is valid, and tight. -/
import Derived.Test.YtmgemafkaddfjaaTile
namespace Go.Proofs.Ytmgemafkaddfjaa
open Go.RowKit

def cnOk (s : Int) (xs : List Int) (t : Int) (ys : List Int) : Bool := twoOk s xs t ys && decide (0 < xs.length) && decide (0 < ys.length)
theorem cnOk_iff {s t : Int} {xs ys : List Int} : cnOk s xs t ys = true ↔ twoOk s xs t ys = true ∧ 0 < xs.length ∧ 0 < ys.length := by simp [cnOk, and_assoc]
set_option maxHeartbeats 1000000 in
theorem implCanonOk_any (s t : Int) (A B : Option Addr) (c d : Nat) (xs ys : List Int) (w : World) (hs : -9223372036854775808 ≤ s ∧ s ≤ 9223372036854775807) (ht : -9223372036854775808 ≤ t ∧ t ≤ 9223372036854775807) (hx : IR w A xs) (hy : IR w B ys) :
    Calls Try.prog 54 #[.agg #[.int .i64 s, .slice A xs.length c, .int .i64 t, .slice B ys.length d]] w fun e w' => e = .returned (.bool (cnOk s xs t ys)) ∧ Below w.heap.size w w' := by
  obtain ⟨W0, hW0⟩ : ∃ W0, W0 = w.alloc (.cells #[.int .i64 s, .slice A xs.length c, .int .i64 t, .slice B ys.length d] 31) := ⟨_, rfl⟩
  have bw : Below w.heap.size w W0 := by rw [hW0]; exact below_alloc _ _
  have hz : w.heap.size + 1 ≤ W0.heap.size := by rw [hW0]; simp
  have k0 : W0.cell? ⟨w.heap.size, 0, none⟩ = some (.int .i64 s) := by rw [hW0]; simp [go_sem]
  have k1 : W0.cell? ⟨w.heap.size, 1, none⟩ = some (.slice A xs.length c) := by rw [hW0]; simp [go_sem]
  have k2 : W0.cell? ⟨w.heap.size, 2, none⟩ = some (.int .i64 t) := by rw [hW0]; simp [go_sem]
  have k3 : W0.cell? ⟨w.heap.size, 3, none⟩ = some (.slice B ys.length d) := by rw [hW0]; simp [go_sem]
  have HX := Bx.mk (hx.below bw)
  have HY := Bx.mk (hy.below bw)
  have HS := Bx.mk hs
  have HT := Bx.mk ht
  clear hx hy hs ht
  cases h1 : twoOk s xs t ys with
  | false =>
    have HR : Bx (cnOk s xs t ys = false) := ⟨by simp [cnOk, h1]⟩
    go_enter Try.func54, Try.ntmps54
    go_wp2_with fail
    rw [← hW0]
    clear hW0
    refine (implSame_any _ _ _ _ _ _ _ _ _ HS.out HT.out (by exact HX.out) (by exact HY.out)).mono ?_
    rintro e w1 ⟨rfl, b⟩
    replace k0 := ((bcell b).1 _ _ (by omega)).trans k0
    replace k1 := ((bcell b).1 _ _ (by omega)).trans k1
    replace k2 := ((bcell b).1 _ _ (by omega)).trans k2
    replace k3 := ((bcell b).1 _ _ (by omega)).trans k3
    replace HX := Bx.mk (HX.out.below b)
    replace HY := Bx.mk (HY.out.below b)
    replace hz := Nat.le_trans hz b.size
    replace bw := bw.trans (b.mono bw.size)
    clear b
    go_wp2_with fail
    go_ret
    exact ⟨ret_bool HR.out.symm, bw⟩
  | true =>
    by_cases hx0 : 0 < (xs.length : Int)
    · have HR : Bx (cnOk s xs t ys = decide (0 < ys.length)) := ⟨by simp [cnOk, h1]; omega⟩
      go_enter Try.func54, Try.ntmps54
      go_wp2_with fail
      rw [← hW0]
      clear hW0
      refine (implSame_any _ _ _ _ _ _ _ _ _ HS.out HT.out (by exact HX.out) (by exact HY.out)).mono ?_
      rintro e w1 ⟨rfl, b⟩
      replace k0 := ((bcell b).1 _ _ (by omega)).trans k0
      replace k1 := ((bcell b).1 _ _ (by omega)).trans k1
      replace k2 := ((bcell b).1 _ _ (by omega)).trans k2
      replace k3 := ((bcell b).1 _ _ (by omega)).trans k3
      replace HX := Bx.mk (HX.out.below b)
      replace HY := Bx.mk (HY.out.below b)
      replace hz := Nat.le_trans hz b.size
      replace bw := bw.trans (b.mono bw.size)
      clear b
      go_wp2_with fail
      go_ret
      exact ⟨ret_bool HR.out.symm, bw⟩
    · have HR : Bx (cnOk s xs t ys = false) := ⟨by simp [cnOk, show xs.length = 0 by omega]⟩
      have hx1 : (xs.length : Int) ≤ 0 := by omega
      go_enter Try.func54, Try.ntmps54
      go_wp2_with fail
      rw [← hW0]
      clear hW0
      refine (implSame_any _ _ _ _ _ _ _ _ _ HS.out HT.out (by exact HX.out) (by exact HY.out)).mono ?_
      rintro e w1 ⟨rfl, b⟩
      replace k0 := ((bcell b).1 _ _ (by omega)).trans k0
      replace k1 := ((bcell b).1 _ _ (by omega)).trans k1
      replace k2 := ((bcell b).1 _ _ (by omega)).trans k2
      replace k3 := ((bcell b).1 _ _ (by omega)).trans k3
      replace HX := Bx.mk (HX.out.below b)
      replace HY := Bx.mk (HY.out.below b)
      replace hz := Nat.le_trans hz b.size
      replace bw := bw.trans (b.mono bw.size)
      clear b
      go_wp2_with fail
      go_ret
      exact ⟨ret_bool HR.out.symm, bw⟩
set_option maxHeartbeats 1000000 in
theorem specCanonOk_any (s t : Int) (A B : Option Addr) (c d : Nat) (xs ys : List Int) (w : World) (hs : -9223372036854775808 ≤ s ∧ s ≤ 9223372036854775807) (ht : -9223372036854775808 ≤ t ∧ t ≤ 9223372036854775807) (hx : IR w A xs) (hy : IR w B ys) :
    Calls Try.prog 52 #[.agg #[.int .i64 s, .slice A xs.length c, .int .i64 t, .slice B ys.length d]] w fun e w' => e = .returned (.bool (cnOk s xs t ys)) ∧ Below w.heap.size w w' := by
  obtain ⟨W0, hW0⟩ : ∃ W0, W0 = w.alloc (.cells #[.int .i64 s, .slice A xs.length c, .int .i64 t, .slice B ys.length d] 31) := ⟨_, rfl⟩
  have bw : Below w.heap.size w W0 := by rw [hW0]; exact below_alloc _ _
  have hz : w.heap.size + 1 ≤ W0.heap.size := by rw [hW0]; simp
  have k0 : W0.cell? ⟨w.heap.size, 0, none⟩ = some (.int .i64 s) := by rw [hW0]; simp [go_sem]
  have k1 : W0.cell? ⟨w.heap.size, 1, none⟩ = some (.slice A xs.length c) := by rw [hW0]; simp [go_sem]
  have k2 : W0.cell? ⟨w.heap.size, 2, none⟩ = some (.int .i64 t) := by rw [hW0]; simp [go_sem]
  have k3 : W0.cell? ⟨w.heap.size, 3, none⟩ = some (.slice B ys.length d) := by rw [hW0]; simp [go_sem]
  have HX := Bx.mk (hx.below bw)
  have HY := Bx.mk (hy.below bw)
  have HS := Bx.mk hs
  have HT := Bx.mk ht
  clear hx hy hs ht
  cases h1 : twoOk s xs t ys with
  | false =>
    have HR : Bx (cnOk s xs t ys = false) := ⟨by simp [cnOk, h1]⟩
    go_enter Try.func52, Try.ntmps52
    go_wp2_with fail
    rw [← hW0]
    clear hW0
    refine (specSame_any _ _ _ _ _ _ _ _ _ HS.out HT.out (by exact HX.out) (by exact HY.out)).mono ?_
    rintro e w1 ⟨rfl, b⟩
    replace k0 := ((bcell b).1 _ _ (by omega)).trans k0
    replace k1 := ((bcell b).1 _ _ (by omega)).trans k1
    replace k2 := ((bcell b).1 _ _ (by omega)).trans k2
    replace k3 := ((bcell b).1 _ _ (by omega)).trans k3
    replace HX := Bx.mk (HX.out.below b)
    replace HY := Bx.mk (HY.out.below b)
    replace hz := Nat.le_trans hz b.size
    replace bw := bw.trans (b.mono bw.size)
    clear b
    go_wp2_with fail
    go_ret
    exact ⟨ret_bool HR.out.symm, bw⟩
  | true =>
    by_cases hx0 : 0 < (xs.length : Int)
    · have HR : Bx (cnOk s xs t ys = decide (0 < ys.length)) := ⟨by simp [cnOk, h1]; omega⟩
      go_enter Try.func52, Try.ntmps52
      go_wp2_with fail
      rw [← hW0]
      clear hW0
      refine (specSame_any _ _ _ _ _ _ _ _ _ HS.out HT.out (by exact HX.out) (by exact HY.out)).mono ?_
      rintro e w1 ⟨rfl, b⟩
      replace k0 := ((bcell b).1 _ _ (by omega)).trans k0
      replace k1 := ((bcell b).1 _ _ (by omega)).trans k1
      replace k2 := ((bcell b).1 _ _ (by omega)).trans k2
      replace k3 := ((bcell b).1 _ _ (by omega)).trans k3
      replace HX := Bx.mk (HX.out.below b)
      replace HY := Bx.mk (HY.out.below b)
      replace hz := Nat.le_trans hz b.size
      replace bw := bw.trans (b.mono bw.size)
      clear b
      go_wp2_with fail
      go_ret
      exact ⟨ret_bool HR.out.symm, bw⟩
    · have HR : Bx (cnOk s xs t ys = false) := ⟨by simp [cnOk, show xs.length = 0 by omega]⟩
      have hx1 : (xs.length : Int) ≤ 0 := by omega
      go_enter Try.func52, Try.ntmps52
      go_wp2_with fail
      rw [← hW0]
      clear hW0
      refine (specSame_any _ _ _ _ _ _ _ _ _ HS.out HT.out (by exact HX.out) (by exact HY.out)).mono ?_
      rintro e w1 ⟨rfl, b⟩
      replace k0 := ((bcell b).1 _ _ (by omega)).trans k0
      replace k1 := ((bcell b).1 _ _ (by omega)).trans k1
      replace k2 := ((bcell b).1 _ _ (by omega)).trans k2
      replace k3 := ((bcell b).1 _ _ (by omega)).trans k3
      replace HX := Bx.mk (HX.out.below b)
      replace HY := Bx.mk (HY.out.below b)
      replace hz := Nat.le_trans hz b.size
      replace bw := bw.trans (b.mono bw.size)
      clear b
      go_wp2_with fail
      go_ret
      exact ⟨ret_bool HR.out.symm, bw⟩
def tightB (s : Int) (xs : List Int) (t : Int) (ys : List Int) : Bool := cnOk s xs t ys && btw s xs t ys 1 1
end Go.Proofs.Ytmgemafkaddfjaa
