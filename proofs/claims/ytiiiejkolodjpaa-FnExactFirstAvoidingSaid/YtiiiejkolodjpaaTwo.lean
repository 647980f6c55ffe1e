/- Two rhythms of one size; how often each pulse is a sum. -/
import Derived.Test.YtiiiejkolodjpaaSumC
import Derived.Test.YtiiiejkolodjpaaHas
namespace Go.Proofs.Ytiiiejkolodjpaa
open Go.RowKit

def twoOk (s : Int) (xs : List Int) (t : Int) (ys : List Int) : Bool := rhOk s xs && rhOk t ys && (s == t)
theorem twoOk_iff {s t : Int} {xs ys : List Int} : twoOk s xs t ys = true ↔ rhOk s xs = true ∧ rhOk t ys = true ∧ s = t := by simp [twoOk, and_assoc]
def sumCL (s : Int) (xs : List Int) (t : Int) (ys : List Int) : List Int := if twoOk s xs t ys = true then sumC s xs ys else []
set_option maxHeartbeats 400000 in
theorem implSame_any (s t : Int) (A B : Option Addr) (c d : Nat) (xs ys : List Int) (w : World) (hs : -9223372036854775808 ≤ s ∧ s ≤ 9223372036854775807) (ht : -9223372036854775808 ≤ t ∧ t ≤ 9223372036854775807) (hx : IR w A xs) (hy : IR w B ys) :
    Calls Try.prog 66 #[.agg #[.int .i64 s, .slice A xs.length c], .agg #[.int .i64 t, .slice B ys.length d]] w fun e w' => e = .returned (.bool (twoOk s xs t ys)) ∧ Below w.heap.size w w' := by
  obtain ⟨W0, hW0⟩ : ∃ W0, W0 = (w.alloc (.cells #[.int .i64 s, .slice A xs.length c] 27)).alloc (.cells #[.int .i64 t, .slice B ys.length d] 27) := ⟨_, rfl⟩
  have bw : Below w.heap.size w W0 := by rw [hW0]; exact (below_alloc _ _).alloc (by simp) _
  have hz : w.heap.size + 2 ≤ W0.heap.size := by rw [hW0]; simp
  have k0 : W0.cell? ⟨w.heap.size, 0, none⟩ = some (.int .i64 s) := by rw [hW0]; simp [go_sem]
  have k1 : W0.cell? ⟨w.heap.size, 1, none⟩ = some (.slice A xs.length c) := by rw [hW0]; simp [go_sem]
  have k2 : W0.cell? ⟨w.heap.size + 1, 0, none⟩ = some (.int .i64 t) := by rw [hW0]; simp [go_sem]
  have k3 : W0.cell? ⟨w.heap.size + 1, 1, none⟩ = some (.slice B ys.length d) := by rw [hW0]; simp [go_sem]
  have HX := Bx.mk (hx.below bw)
  have HY := Bx.mk (hy.below bw)
  have HS := Bx.mk hs
  have HT := Bx.mk ht
  clear hx hy hs ht
  cases h1 : rhOk s xs with
  | false =>
    have HR : Bx (twoOk s xs t ys = false) := ⟨by simp [twoOk, h1]⟩
    go_enter Try.func66, Try.ntmps66
    go_wp2_with fail
    rw [← hW0]
    clear hW0
    refine (implRhythmOk_any _ _ _ _ _ HS.out (by exact HX.out)).mono ?_
    rintro e w1 ⟨rfl, b⟩
    replace k0 := ((bcell b).1 _ _ (by omega)).trans k0
    replace k1 := ((bcell b).1 _ _ (by omega)).trans k1
    replace k2 := ((bcell b).1 _ _ (by omega)).trans k2
    replace k3 := ((bcell b).1 _ _ (by omega)).trans k3
    replace HX := Bx.mk (HX.out.below b)
    replace HY := Bx.mk (HY.out.below b)
    replace hz := Nat.le_trans hz b.size
    replace bw := bw.trans (b.mono bw.size)
    clear b
    go_wp2_with fail
    go_ret
    exact ⟨ret_bool HR.out.symm, bw⟩
  | true =>
    have ⟨⟨hs1, hs2⟩, _, _⟩ := rhOk_iff.1 h1
    cases h2 : rhOk t ys with
    | false =>
      have HR : Bx (twoOk s xs t ys = false) := ⟨by simp [twoOk, h2]⟩
      go_enter Try.func66, Try.ntmps66
      go_wp2_with fail
      rw [← hW0]
      clear hW0
      refine (implRhythmOk_any _ _ _ _ _ HS.out (by exact HX.out)).mono ?_
      rintro e w1 ⟨rfl, b⟩
      replace k0 := ((bcell b).1 _ _ (by omega)).trans k0
      replace k1 := ((bcell b).1 _ _ (by omega)).trans k1
      replace k2 := ((bcell b).1 _ _ (by omega)).trans k2
      replace k3 := ((bcell b).1 _ _ (by omega)).trans k3
      replace HX := Bx.mk (HX.out.below b)
      replace HY := Bx.mk (HY.out.below b)
      replace hz := Nat.le_trans hz b.size
      replace bw := bw.trans (b.mono bw.size)
      clear b
      go_wp2_with fail
      refine (implRhythmOk_any _ _ _ _ _ HT.out (by exact HY.out)).mono ?_
      rintro e w2 ⟨rfl, b⟩
      replace k0 := ((bcell b).1 _ _ (by omega)).trans k0
      replace k1 := ((bcell b).1 _ _ (by omega)).trans k1
      replace k2 := ((bcell b).1 _ _ (by omega)).trans k2
      replace k3 := ((bcell b).1 _ _ (by omega)).trans k3
      replace HX := Bx.mk (HX.out.below b)
      replace HY := Bx.mk (HY.out.below b)
      replace hz := Nat.le_trans hz b.size
      replace bw := bw.trans (b.mono bw.size)
      clear b
      go_wp2_with fail
      go_ret
      exact ⟨ret_bool HR.out.symm, bw⟩
    | true =>
      have HR : Bx (twoOk s xs t ys = (s == t)) := ⟨by simp [twoOk, h1, h2]⟩
      go_enter Try.func66, Try.ntmps66
      go_wp2_with fail
      rw [← hW0]
      clear hW0
      refine (implRhythmOk_any _ _ _ _ _ HS.out (by exact HX.out)).mono ?_
      rintro e w1 ⟨rfl, b⟩
      replace k0 := ((bcell b).1 _ _ (by omega)).trans k0
      replace k1 := ((bcell b).1 _ _ (by omega)).trans k1
      replace k2 := ((bcell b).1 _ _ (by omega)).trans k2
      replace k3 := ((bcell b).1 _ _ (by omega)).trans k3
      replace HX := Bx.mk (HX.out.below b)
      replace HY := Bx.mk (HY.out.below b)
      replace hz := Nat.le_trans hz b.size
      replace bw := bw.trans (b.mono bw.size)
      clear b
      go_wp2_with fail
      refine (implRhythmOk_any _ _ _ _ _ HT.out (by exact HY.out)).mono ?_
      rintro e w2 ⟨rfl, b⟩
      replace k0 := ((bcell b).1 _ _ (by omega)).trans k0
      replace k1 := ((bcell b).1 _ _ (by omega)).trans k1
      replace k2 := ((bcell b).1 _ _ (by omega)).trans k2
      replace k3 := ((bcell b).1 _ _ (by omega)).trans k3
      replace HX := Bx.mk (HX.out.below b)
      replace HY := Bx.mk (HY.out.below b)
      replace hz := Nat.le_trans hz b.size
      replace bw := bw.trans (b.mono bw.size)
      clear b
      go_wp2_with fail
      go_ret
      exact ⟨ret_bool HR.out.symm, bw⟩
set_option maxHeartbeats 400000 in
theorem specSame_any (s t : Int) (A B : Option Addr) (c d : Nat) (xs ys : List Int) (w : World) (hs : -9223372036854775808 ≤ s ∧ s ≤ 9223372036854775807) (ht : -9223372036854775808 ≤ t ∧ t ≤ 9223372036854775807) (hx : IR w A xs) (hy : IR w B ys) :
    Calls Try.prog 65 #[.agg #[.int .i64 s, .slice A xs.length c], .agg #[.int .i64 t, .slice B ys.length d]] w fun e w' => e = .returned (.bool (twoOk s xs t ys)) ∧ Below w.heap.size w w' := by
  obtain ⟨W0, hW0⟩ : ∃ W0, W0 = (w.alloc (.cells #[.int .i64 s, .slice A xs.length c] 27)).alloc (.cells #[.int .i64 t, .slice B ys.length d] 27) := ⟨_, rfl⟩
  have bw : Below w.heap.size w W0 := by rw [hW0]; exact (below_alloc _ _).alloc (by simp) _
  have hz : w.heap.size + 2 ≤ W0.heap.size := by rw [hW0]; simp
  have k0 : W0.cell? ⟨w.heap.size, 0, none⟩ = some (.int .i64 s) := by rw [hW0]; simp [go_sem]
  have k1 : W0.cell? ⟨w.heap.size, 1, none⟩ = some (.slice A xs.length c) := by rw [hW0]; simp [go_sem]
  have k2 : W0.cell? ⟨w.heap.size + 1, 0, none⟩ = some (.int .i64 t) := by rw [hW0]; simp [go_sem]
  have k3 : W0.cell? ⟨w.heap.size + 1, 1, none⟩ = some (.slice B ys.length d) := by rw [hW0]; simp [go_sem]
  have HX := Bx.mk (hx.below bw)
  have HY := Bx.mk (hy.below bw)
  have HS := Bx.mk hs
  have HT := Bx.mk ht
  clear hx hy hs ht
  cases h1 : rhOk s xs with
  | false =>
    have HR : Bx (twoOk s xs t ys = false) := ⟨by simp [twoOk, h1]⟩
    go_enter Try.func65, Try.ntmps65
    go_wp2_with fail
    rw [← hW0]
    clear hW0
    refine (specRhythmOk_any _ _ _ _ _ HS.out (by exact HX.out)).mono ?_
    rintro e w1 ⟨rfl, b⟩
    replace k0 := ((bcell b).1 _ _ (by omega)).trans k0
    replace k1 := ((bcell b).1 _ _ (by omega)).trans k1
    replace k2 := ((bcell b).1 _ _ (by omega)).trans k2
    replace k3 := ((bcell b).1 _ _ (by omega)).trans k3
    replace HX := Bx.mk (HX.out.below b)
    replace HY := Bx.mk (HY.out.below b)
    replace hz := Nat.le_trans hz b.size
    replace bw := bw.trans (b.mono bw.size)
    clear b
    go_wp2_with fail
    go_ret
    exact ⟨ret_bool HR.out.symm, bw⟩
  | true =>
    have ⟨⟨hs1, hs2⟩, _, _⟩ := rhOk_iff.1 h1
    cases h2 : rhOk t ys with
    | false =>
      have HR : Bx (twoOk s xs t ys = false) := ⟨by simp [twoOk, h2]⟩
      go_enter Try.func65, Try.ntmps65
      go_wp2_with fail
      rw [← hW0]
      clear hW0
      refine (specRhythmOk_any _ _ _ _ _ HS.out (by exact HX.out)).mono ?_
      rintro e w1 ⟨rfl, b⟩
      replace k0 := ((bcell b).1 _ _ (by omega)).trans k0
      replace k1 := ((bcell b).1 _ _ (by omega)).trans k1
      replace k2 := ((bcell b).1 _ _ (by omega)).trans k2
      replace k3 := ((bcell b).1 _ _ (by omega)).trans k3
      replace HX := Bx.mk (HX.out.below b)
      replace HY := Bx.mk (HY.out.below b)
      replace hz := Nat.le_trans hz b.size
      replace bw := bw.trans (b.mono bw.size)
      clear b
      go_wp2_with fail
      refine (specRhythmOk_any _ _ _ _ _ HT.out (by exact HY.out)).mono ?_
      rintro e w2 ⟨rfl, b⟩
      replace k0 := ((bcell b).1 _ _ (by omega)).trans k0
      replace k1 := ((bcell b).1 _ _ (by omega)).trans k1
      replace k2 := ((bcell b).1 _ _ (by omega)).trans k2
      replace k3 := ((bcell b).1 _ _ (by omega)).trans k3
      replace HX := Bx.mk (HX.out.below b)
      replace HY := Bx.mk (HY.out.below b)
      replace hz := Nat.le_trans hz b.size
      replace bw := bw.trans (b.mono bw.size)
      clear b
      go_wp2_with fail
      go_ret
      exact ⟨ret_bool HR.out.symm, bw⟩
    | true =>
      have HR : Bx (twoOk s xs t ys = (s == t)) := ⟨by simp [twoOk, h1, h2]⟩
      go_enter Try.func65, Try.ntmps65
      go_wp2_with fail
      rw [← hW0]
      clear hW0
      refine (specRhythmOk_any _ _ _ _ _ HS.out (by exact HX.out)).mono ?_
      rintro e w1 ⟨rfl, b⟩
      replace k0 := ((bcell b).1 _ _ (by omega)).trans k0
      replace k1 := ((bcell b).1 _ _ (by omega)).trans k1
      replace k2 := ((bcell b).1 _ _ (by omega)).trans k2
      replace k3 := ((bcell b).1 _ _ (by omega)).trans k3
      replace HX := Bx.mk (HX.out.below b)
      replace HY := Bx.mk (HY.out.below b)
      replace hz := Nat.le_trans hz b.size
      replace bw := bw.trans (b.mono bw.size)
      clear b
      go_wp2_with fail
      refine (specRhythmOk_any _ _ _ _ _ HT.out (by exact HY.out)).mono ?_
      rintro e w2 ⟨rfl, b⟩
      replace k0 := ((bcell b).1 _ _ (by omega)).trans k0
      replace k1 := ((bcell b).1 _ _ (by omega)).trans k1
      replace k2 := ((bcell b).1 _ _ (by omega)).trans k2
      replace k3 := ((bcell b).1 _ _ (by omega)).trans k3
      replace HX := Bx.mk (HX.out.below b)
      replace HY := Bx.mk (HY.out.below b)
      replace hz := Nat.le_trans hz b.size
      replace bw := bw.trans (b.mono bw.size)
      clear b
      go_wp2_with fail
      go_ret
      exact ⟨ret_bool HR.out.symm, bw⟩
set_option maxHeartbeats 400000 in
theorem implSumCounts_any (s t : Int) (A B : Option Addr) (c d : Nat) (xs ys : List Int) (w : World) (hs : -9223372036854775808 ≤ s ∧ s ≤ 9223372036854775807) (ht : -9223372036854775808 ≤ t ∧ t ≤ 9223372036854775807) (hx : IR w A xs) (hy : IR w B ys) :
    Calls Try.prog 43 #[.agg #[.int .i64 s, .slice A xs.length c], .agg #[.int .i64 t, .slice B ys.length d]] w (GivesInts w (sumCL s xs t ys)) := by
  obtain ⟨W0, hW0⟩ : ∃ W0, W0 = (w.alloc (.cells #[.int .i64 s, .slice A xs.length c] 27)).alloc (.cells #[.int .i64 t, .slice B ys.length d] 27) := ⟨_, rfl⟩
  have bw : Below w.heap.size w W0 := by rw [hW0]; exact (below_alloc _ _).alloc (by simp) _
  have hz : w.heap.size + 2 ≤ W0.heap.size := by rw [hW0]; simp
  have k0 : W0.cell? ⟨w.heap.size, 0, none⟩ = some (.int .i64 s) := by rw [hW0]; simp [go_sem]
  have k1 : W0.cell? ⟨w.heap.size, 1, none⟩ = some (.slice A xs.length c) := by rw [hW0]; simp [go_sem]
  have k2 : W0.cell? ⟨w.heap.size + 1, 0, none⟩ = some (.int .i64 t) := by rw [hW0]; simp [go_sem]
  have k3 : W0.cell? ⟨w.heap.size + 1, 1, none⟩ = some (.slice B ys.length d) := by rw [hW0]; simp [go_sem]
  have HX := Bx.mk (hx.below bw)
  have HY := Bx.mk (hy.below bw)
  have HS := Bx.mk hs
  have HT := Bx.mk ht
  clear hx hy hs ht
  cases h1 : twoOk s xs t ys with
  | false =>
    have HR : Bx (sumCL s xs t ys = []) := ⟨by simp [sumCL, h1]⟩
    go_enter Try.func43, Try.ntmps43
    go_wp2_with fail
    rw [← hW0]
    clear hW0
    refine (implSame_any _ _ _ _ _ _ _ _ _ HS.out HT.out (by exact HX.out) (by exact HY.out)).mono ?_
    rintro e w1 ⟨rfl, b⟩
    replace k0 := ((bcell b).1 _ _ (by omega)).trans k0
    replace k1 := ((bcell b).1 _ _ (by omega)).trans k1
    replace k2 := ((bcell b).1 _ _ (by omega)).trans k2
    replace k3 := ((bcell b).1 _ _ (by omega)).trans k3
    replace HX := Bx.mk (HX.out.below b)
    replace HY := Bx.mk (HY.out.below b)
    replace hz := Nat.le_trans hz b.size
    replace bw := bw.trans (b.mono bw.size)
    clear b
    go_wp2_with fail
    go_ret
    exact GivesInts.of_row (by rw [HR.out]; exact Row.nil _ _) (by rw [HR.out]; simp) bw
  | true =>
    obtain ⟨e1, e2, e3⟩ := twoOk_iff.1 h1
    subst e3
    have HR : Bx (sumCL s xs s ys = sumC s xs ys) := ⟨by simp [sumCL, h1]⟩
    have H1 := Bx.mk e1
    have H2 := Bx.mk e2
    clear e1 e2
    go_enter Try.func43, Try.ntmps43
    go_wp2_with fail
    rw [← hW0]
    clear hW0
    refine (implSame_any _ _ _ _ _ _ _ _ _ HS.out HT.out (by exact HX.out) (by exact HY.out)).mono ?_
    rintro e w1 ⟨rfl, b⟩
    replace k0 := ((bcell b).1 _ _ (by omega)).trans k0
    replace k1 := ((bcell b).1 _ _ (by omega)).trans k1
    replace k2 := ((bcell b).1 _ _ (by omega)).trans k2
    replace k3 := ((bcell b).1 _ _ (by omega)).trans k3
    replace HX := Bx.mk (HX.out.below b)
    replace HY := Bx.mk (HY.out.below b)
    replace hz := Nat.le_trans hz b.size
    replace bw := bw.trans (b.mono bw.size)
    clear b
    go_wp2_with fail
    refine (sumCounts_any _ _ _ _ _ _ _ _ H1.out H2.out (by exact HX.out) (by exact HY.out)).mono ?_
    rintro e w2 ⟨A2, c2, rfl, io, b⟩
    have HG : Bx (GivesInts w (sumCL s xs s ys) (.returned (.slice A2 (sumC s xs ys).length c2)) w2) := ⟨⟨A2, c2, by rw [HR.out], by rw [HR.out]; exact io.mono bw.size, bw.trans (b.mono bw.size)⟩⟩
    go_wp2_with fail
    go_ret
    exact HG.out
set_option maxHeartbeats 400000 in
theorem specSumCounts_any (s t : Int) (A B : Option Addr) (c d : Nat) (xs ys : List Int) (w : World) (hs : -9223372036854775808 ≤ s ∧ s ≤ 9223372036854775807) (ht : -9223372036854775808 ≤ t ∧ t ≤ 9223372036854775807) (hx : IR w A xs) (hy : IR w B ys) :
    Calls Try.prog 42 #[.agg #[.int .i64 s, .slice A xs.length c], .agg #[.int .i64 t, .slice B ys.length d]] w (GivesInts w (sumCL s xs t ys)) := by
  obtain ⟨W0, hW0⟩ : ∃ W0, W0 = (w.alloc (.cells #[.int .i64 s, .slice A xs.length c] 27)).alloc (.cells #[.int .i64 t, .slice B ys.length d] 27) := ⟨_, rfl⟩
  have bw : Below w.heap.size w W0 := by rw [hW0]; exact (below_alloc _ _).alloc (by simp) _
  have hz : w.heap.size + 2 ≤ W0.heap.size := by rw [hW0]; simp
  have k0 : W0.cell? ⟨w.heap.size, 0, none⟩ = some (.int .i64 s) := by rw [hW0]; simp [go_sem]
  have k1 : W0.cell? ⟨w.heap.size, 1, none⟩ = some (.slice A xs.length c) := by rw [hW0]; simp [go_sem]
  have k2 : W0.cell? ⟨w.heap.size + 1, 0, none⟩ = some (.int .i64 t) := by rw [hW0]; simp [go_sem]
  have k3 : W0.cell? ⟨w.heap.size + 1, 1, none⟩ = some (.slice B ys.length d) := by rw [hW0]; simp [go_sem]
  have HX := Bx.mk (hx.below bw)
  have HY := Bx.mk (hy.below bw)
  have HS := Bx.mk hs
  have HT := Bx.mk ht
  clear hx hy hs ht
  cases h1 : twoOk s xs t ys with
  | false =>
    have HR : Bx (sumCL s xs t ys = []) := ⟨by simp [sumCL, h1]⟩
    go_enter Try.func42, Try.ntmps42
    go_wp2_with fail
    rw [← hW0]
    clear hW0
    refine (specSame_any _ _ _ _ _ _ _ _ _ HS.out HT.out (by exact HX.out) (by exact HY.out)).mono ?_
    rintro e w1 ⟨rfl, b⟩
    replace k0 := ((bcell b).1 _ _ (by omega)).trans k0
    replace k1 := ((bcell b).1 _ _ (by omega)).trans k1
    replace k2 := ((bcell b).1 _ _ (by omega)).trans k2
    replace k3 := ((bcell b).1 _ _ (by omega)).trans k3
    replace HX := Bx.mk (HX.out.below b)
    replace HY := Bx.mk (HY.out.below b)
    replace hz := Nat.le_trans hz b.size
    replace bw := bw.trans (b.mono bw.size)
    clear b
    go_wp2_with fail
    go_ret
    exact GivesInts.of_row (by rw [HR.out]; exact Row.nil _ _) (by rw [HR.out]; simp) bw
  | true =>
    obtain ⟨e1, e2, e3⟩ := twoOk_iff.1 h1
    subst e3
    have HR : Bx (sumCL s xs s ys = sumC s xs ys) := ⟨by simp [sumCL, h1]⟩
    have H1 := Bx.mk e1
    have H2 := Bx.mk e2
    clear e1 e2
    go_enter Try.func42, Try.ntmps42
    go_wp2_with fail
    rw [← hW0]
    clear hW0
    refine (specSame_any _ _ _ _ _ _ _ _ _ HS.out HT.out (by exact HX.out) (by exact HY.out)).mono ?_
    rintro e w1 ⟨rfl, b⟩
    replace k0 := ((bcell b).1 _ _ (by omega)).trans k0
    replace k1 := ((bcell b).1 _ _ (by omega)).trans k1
    replace k2 := ((bcell b).1 _ _ (by omega)).trans k2
    replace k3 := ((bcell b).1 _ _ (by omega)).trans k3
    replace HX := Bx.mk (HX.out.below b)
    replace HY := Bx.mk (HY.out.below b)
    replace hz := Nat.le_trans hz b.size
    replace bw := bw.trans (b.mono bw.size)
    clear b
    go_wp2_with fail
    refine (l09Counts_any _ _ _ _ _ _ _ _ H1.out H2.out (by exact HX.out) (by exact HY.out)).mono ?_
    rintro e w2 ⟨A2, c2, rfl, io, b⟩
    have HG : Bx (GivesInts w (sumCL s xs s ys) (.returned (.slice A2 (sumC s xs ys).length c2)) w2) := ⟨⟨A2, c2, by rw [HR.out], by rw [HR.out]; exact io.mono bw.size, bw.trans (b.mono bw.size)⟩⟩
    go_wp2_with fail
    go_ret
    exact HG.out
end Go.Proofs.Ytiiiejkolodjpaa
