/- Two rhythms of one size; how often each pulse is a sum. -/
import Derived.Test.YtppopjbpfnlfbaaSumC
import Derived.Test.YtppopjbpfnlfbaaBas
namespace Go.Proofs.Ytppopjbpfnlfbaa
open Go.RowKit

def twoOk (s : Int) (xs : List Int) (t : Int) (ys : List Int) : Bool := rhOk s xs && rhOk t ys && (s == t)
theorem twoOk_iff {s t : Int} {xs ys : List Int} : twoOk s xs t ys = true ↔ rhOk s xs = true ∧ rhOk t ys = true ∧ s = t := by simp [twoOk, and_assoc]
def sumCL (s : Int) (xs : List Int) (t : Int) (ys : List Int) : List Int := if twoOk s xs t ys = true then sumC s xs ys else []
set_option maxHeartbeats 400000 in
theorem implSame_any (s t : Int) (A B : Option Addr) (c d : Nat) (xs ys : List Int) (w : World) (hs : -9223372036854775808 ≤ s ∧ s ≤ 9223372036854775807) (ht : -9223372036854775808 ≤ t ∧ t ≤ 9223372036854775807) (hx : IR w A xs) (hy : IR w B ys) :
    Calls Try.prog 20 #[.agg #[.int .i64 s, .slice A xs.length c], .agg #[.int .i64 t, .slice B ys.length d]] w fun e w' => e = .returned (.bool (twoOk s xs t ys)) ∧ Below w.heap.size w w' := by
  obtain ⟨W0, hW0⟩ : ∃ W0, W0 = (w.alloc (.cells #[.int .i64 s, .slice A xs.length c] 26)).alloc (.cells #[.int .i64 t, .slice B ys.length d] 26) := ⟨_, rfl⟩
  have bw : Below w.heap.size w W0 := by rw [hW0]; exact (below_alloc _ _).alloc (by simp) _
  have hz : w.heap.size + 2 ≤ W0.heap.size := by rw [hW0]; simp
  have k0 : W0.cell? ⟨w.heap.size, 0, none⟩ = some (.int .i64 s) := by rw [hW0]; simp [go_sem]
  have k1 : W0.cell? ⟨w.heap.size, 1, none⟩ = some (.slice A xs.length c) := by rw [hW0]; simp [go_sem]
  have k2 : W0.cell? ⟨w.heap.size + 1, 0, none⟩ = some (.int .i64 t) := by rw [hW0]; simp [go_sem]
  have k3 : W0.cell? ⟨w.heap.size + 1, 1, none⟩ = some (.slice B ys.length d) := by rw [hW0]; simp [go_sem]
  have HX := Bx.mk (hx.below bw)
  have HY := Bx.mk (hy.below bw)
  have HS := Bx.mk hs
  have HT := Bx.mk ht
  clear hx hy hs ht
  cases h1 : rhOk s xs with
  | false =>
    have HR : Bx (twoOk s xs t ys = false) := ⟨by simp [twoOk, h1]⟩
    go_enter Try.func20, Try.ntmps20
    go_wp2_with fail
    rw [← hW0]
    clear hW0
    refine (implRhythmOk_any _ _ _ _ _ HS.out (by exact HX.out)).mono ?_
    rintro e w1 ⟨rfl, b⟩
    replace k0 := ((bcell b).1 _ _ (by omega)).trans k0
    replace k1 := ((bcell b).1 _ _ (by omega)).trans k1
    replace k2 := ((bcell b).1 _ _ (by omega)).trans k2
    replace k3 := ((bcell b).1 _ _ (by omega)).trans k3
    replace HX := Bx.mk (HX.out.below b)
    replace HY := Bx.mk (HY.out.below b)
    replace hz := Nat.le_trans hz b.size
    replace bw := bw.trans (b.mono bw.size)
    clear b
    go_wp2_with fail
    go_ret
    exact ⟨ret_bool HR.out.symm, bw⟩
  | true =>
    have ⟨⟨hs1, hs2⟩, _, _⟩ := rhOk_iff.1 h1
    cases h2 : rhOk t ys with
    | false =>
      have HR : Bx (twoOk s xs t ys = false) := ⟨by simp [twoOk, h2]⟩
      go_enter Try.func20, Try.ntmps20
      go_wp2_with fail
      rw [← hW0]
      clear hW0
      refine (implRhythmOk_any _ _ _ _ _ HS.out (by exact HX.out)).mono ?_
      rintro e w1 ⟨rfl, b⟩
      replace k0 := ((bcell b).1 _ _ (by omega)).trans k0
      replace k1 := ((bcell b).1 _ _ (by omega)).trans k1
      replace k2 := ((bcell b).1 _ _ (by omega)).trans k2
      replace k3 := ((bcell b).1 _ _ (by omega)).trans k3
      replace HX := Bx.mk (HX.out.below b)
      replace HY := Bx.mk (HY.out.below b)
      replace hz := Nat.le_trans hz b.size
      replace bw := bw.trans (b.mono bw.size)
      clear b
      go_wp2_with fail
      refine (implRhythmOk_any _ _ _ _ _ HT.out (by exact HY.out)).mono ?_
      rintro e w2 ⟨rfl, b⟩
      replace k0 := ((bcell b).1 _ _ (by omega)).trans k0
      replace k1 := ((bcell b).1 _ _ (by omega)).trans k1
      replace k2 := ((bcell b).1 _ _ (by omega)).trans k2
      replace k3 := ((bcell b).1 _ _ (by omega)).trans k3
      replace HX := Bx.mk (HX.out.below b)
      replace HY := Bx.mk (HY.out.below b)
      replace hz := Nat.le_trans hz b.size
      replace bw := bw.trans (b.mono bw.size)
      clear b
      go_wp2_with fail
      go_ret
      exact ⟨ret_bool HR.out.symm, bw⟩
    | true =>
      have HR : Bx (twoOk s xs t ys = (s == t)) := ⟨by simp [twoOk, h1, h2]⟩
      go_enter Try.func20, Try.ntmps20
      go_wp2_with fail
      rw [← hW0]
      clear hW0
      refine (implRhythmOk_any _ _ _ _ _ HS.out (by exact HX.out)).mono ?_
      rintro e w1 ⟨rfl, b⟩
      replace k0 := ((bcell b).1 _ _ (by omega)).trans k0
      replace k1 := ((bcell b).1 _ _ (by omega)).trans k1
      replace k2 := ((bcell b).1 _ _ (by omega)).trans k2
      replace k3 := ((bcell b).1 _ _ (by omega)).trans k3
      replace HX := Bx.mk (HX.out.below b)
      replace HY := Bx.mk (HY.out.below b)
      replace hz := Nat.le_trans hz b.size
      replace bw := bw.trans (b.mono bw.size)
      clear b
      go_wp2_with fail
      refine (implRhythmOk_any _ _ _ _ _ HT.out (by exact HY.out)).mono ?_
      rintro e w2 ⟨rfl, b⟩
      replace k0 := ((bcell b).1 _ _ (by omega)).trans k0
      replace k1 := ((bcell b).1 _ _ (by omega)).trans k1
      replace k2 := ((bcell b).1 _ _ (by omega)).trans k2
      replace k3 := ((bcell b).1 _ _ (by omega)).trans k3
      replace HX := Bx.mk (HX.out.below b)
      replace HY := Bx.mk (HY.out.below b)
      replace hz := Nat.le_trans hz b.size
      replace bw := bw.trans (b.mono bw.size)
      clear b
      go_wp2_with fail
      go_ret
      exact ⟨ret_bool HR.out.symm, bw⟩
set_option maxHeartbeats 400000 in
theorem specSame_any (s t : Int) (A B : Option Addr) (c d : Nat) (xs ys : List Int) (w : World) (hs : -9223372036854775808 ≤ s ∧ s ≤ 9223372036854775807) (ht : -9223372036854775808 ≤ t ∧ t ≤ 9223372036854775807) (hx : IR w A xs) (hy : IR w B ys) :
    Calls Try.prog 22 #[.agg #[.int .i64 s, .slice A xs.length c], .agg #[.int .i64 t, .slice B ys.length d]] w fun e w' => e = .returned (.bool (twoOk s xs t ys)) ∧ Below w.heap.size w w' := by
  obtain ⟨W0, hW0⟩ : ∃ W0, W0 = (w.alloc (.cells #[.int .i64 s, .slice A xs.length c] 26)).alloc (.cells #[.int .i64 t, .slice B ys.length d] 26) := ⟨_, rfl⟩
  have bw : Below w.heap.size w W0 := by rw [hW0]; exact (below_alloc _ _).alloc (by simp) _
  have hz : w.heap.size + 2 ≤ W0.heap.size := by rw [hW0]; simp
  have k0 : W0.cell? ⟨w.heap.size, 0, none⟩ = some (.int .i64 s) := by rw [hW0]; simp [go_sem]
  have k1 : W0.cell? ⟨w.heap.size, 1, none⟩ = some (.slice A xs.length c) := by rw [hW0]; simp [go_sem]
  have k2 : W0.cell? ⟨w.heap.size + 1, 0, none⟩ = some (.int .i64 t) := by rw [hW0]; simp [go_sem]
  have k3 : W0.cell? ⟨w.heap.size + 1, 1, none⟩ = some (.slice B ys.length d) := by rw [hW0]; simp [go_sem]
  have HX := Bx.mk (hx.below bw)
  have HY := Bx.mk (hy.below bw)
  have HS := Bx.mk hs
  have HT := Bx.mk ht
  clear hx hy hs ht
  cases h1 : rhOk s xs with
  | false =>
    have HR : Bx (twoOk s xs t ys = false) := ⟨by simp [twoOk, h1]⟩
    go_enter Try.func22, Try.ntmps22
    go_wp2_with fail
    rw [← hW0]
    clear hW0
    refine (specRhythmOk_any _ _ _ _ _ HS.out (by exact HX.out)).mono ?_
    rintro e w1 ⟨rfl, b⟩
    replace k0 := ((bcell b).1 _ _ (by omega)).trans k0
    replace k1 := ((bcell b).1 _ _ (by omega)).trans k1
    replace k2 := ((bcell b).1 _ _ (by omega)).trans k2
    replace k3 := ((bcell b).1 _ _ (by omega)).trans k3
    replace HX := Bx.mk (HX.out.below b)
    replace HY := Bx.mk (HY.out.below b)
    replace hz := Nat.le_trans hz b.size
    replace bw := bw.trans (b.mono bw.size)
    clear b
    go_wp2_with fail
    go_ret
    exact ⟨ret_bool HR.out.symm, bw⟩
  | true =>
    have ⟨⟨hs1, hs2⟩, _, _⟩ := rhOk_iff.1 h1
    cases h2 : rhOk t ys with
    | false =>
      have HR : Bx (twoOk s xs t ys = false) := ⟨by simp [twoOk, h2]⟩
      go_enter Try.func22, Try.ntmps22
      go_wp2_with fail
      rw [← hW0]
      clear hW0
      refine (specRhythmOk_any _ _ _ _ _ HS.out (by exact HX.out)).mono ?_
      rintro e w1 ⟨rfl, b⟩
      replace k0 := ((bcell b).1 _ _ (by omega)).trans k0
      replace k1 := ((bcell b).1 _ _ (by omega)).trans k1
      replace k2 := ((bcell b).1 _ _ (by omega)).trans k2
      replace k3 := ((bcell b).1 _ _ (by omega)).trans k3
      replace HX := Bx.mk (HX.out.below b)
      replace HY := Bx.mk (HY.out.below b)
      replace hz := Nat.le_trans hz b.size
      replace bw := bw.trans (b.mono bw.size)
      clear b
      go_wp2_with fail
      refine (specRhythmOk_any _ _ _ _ _ HT.out (by exact HY.out)).mono ?_
      rintro e w2 ⟨rfl, b⟩
      replace k0 := ((bcell b).1 _ _ (by omega)).trans k0
      replace k1 := ((bcell b).1 _ _ (by omega)).trans k1
      replace k2 := ((bcell b).1 _ _ (by omega)).trans k2
      replace k3 := ((bcell b).1 _ _ (by omega)).trans k3
      replace HX := Bx.mk (HX.out.below b)
      replace HY := Bx.mk (HY.out.below b)
      replace hz := Nat.le_trans hz b.size
      replace bw := bw.trans (b.mono bw.size)
      clear b
      go_wp2_with fail
      go_ret
      exact ⟨ret_bool HR.out.symm, bw⟩
    | true =>
      have HR : Bx (twoOk s xs t ys = (s == t)) := ⟨by simp [twoOk, h1, h2]⟩
      go_enter Try.func22, Try.ntmps22
      go_wp2_with fail
      rw [← hW0]
      clear hW0
      refine (specRhythmOk_any _ _ _ _ _ HS.out (by exact HX.out)).mono ?_
      rintro e w1 ⟨rfl, b⟩
      replace k0 := ((bcell b).1 _ _ (by omega)).trans k0
      replace k1 := ((bcell b).1 _ _ (by omega)).trans k1
      replace k2 := ((bcell b).1 _ _ (by omega)).trans k2
      replace k3 := ((bcell b).1 _ _ (by omega)).trans k3
      replace HX := Bx.mk (HX.out.below b)
      replace HY := Bx.mk (HY.out.below b)
      replace hz := Nat.le_trans hz b.size
      replace bw := bw.trans (b.mono bw.size)
      clear b
      go_wp2_with fail
      refine (specRhythmOk_any _ _ _ _ _ HT.out (by exact HY.out)).mono ?_
      rintro e w2 ⟨rfl, b⟩
      replace k0 := ((bcell b).1 _ _ (by omega)).trans k0
      replace k1 := ((bcell b).1 _ _ (by omega)).trans k1
      replace k2 := ((bcell b).1 _ _ (by omega)).trans k2
      replace k3 := ((bcell b).1 _ _ (by omega)).trans k3
      replace HX := Bx.mk (HX.out.below b)
      replace HY := Bx.mk (HY.out.below b)
      replace hz := Nat.le_trans hz b.size
      replace bw := bw.trans (b.mono bw.size)
      clear b
      go_wp2_with fail
      go_ret
      exact ⟨ret_bool HR.out.symm, bw⟩
end Go.Proofs.Ytppopjbpfnlfbaa
