/- The cyclotomic polynomials as the program gives them; the rest by one; whether a rhythm vanishes. -/
import Derived.Test.YtbgfhbaaacmndaaCyc
import Derived.Test.YtbgfhbaaacmndaaPolyOf
namespace Go.Proofs.Ytbgfhbaaacmndaa
open Go.RowKit

def cycI (n : Int) : List Int := if inB n 1 24 = true then cyc n.toNat else []
def restI (s : Int) (xs : List Int) (d : Int) : List Int := if rhOk s xs = true ∧ inB d 1 24 = true then restL (polyL s xs) (cyc d.toNat) else []
def vanI (s : Int) (xs : List Int) (d : Int) : Bool := rhOk s xs && inB d 1 24 && decide ((restI s xs d).length = 0)
theorem restI_len (s : Int) (xs : List Int) (d : Int) : (restI s xs d).length ≤ 24 := by
  unfold restI
  split
  · rename_i h
    exact Nat.le_trans (restL_len _ _) (polyL_len (rhOk_iff.1 h.1).1)
  · simp
set_option maxHeartbeats 1000000 in
theorem implRest_any (s : Int) (A : Option Addr) (c : Nat) (xs : List Int) (d : Int) (w : World) (hs : -9223372036854775808 ≤ s ∧ s ≤ 9223372036854775807) (hx : IR w A xs) :
    Calls Try.prog 97 #[.agg #[.int .i64 s, .slice A xs.length c], .int .i64 d] w (GivesInts w (restI s xs d)) := by
  obtain ⟨W0, hW0⟩ : ∃ W0, W0 = w.alloc (.cells #[.int .i64 s, .slice A xs.length c] 27) := ⟨_, rfl⟩
  have bw : Below w.heap.size w W0 := by rw [hW0]; exact below_alloc _ _
  have hz : w.heap.size < W0.heap.size := by rw [hW0]; simp
  have k0 : W0.cell? ⟨w.heap.size, 0, none⟩ = some (.int .i64 s) := by rw [hW0]; simp [go_sem]
  have k1 : W0.cell? ⟨w.heap.size, 1, none⟩ = some (.slice A xs.length c) := by rw [hW0]; simp [go_sem]
  have HX := Bx.mk (hx.below bw)
  have HS := Bx.mk hs
  clear hx hs
  cases h1 : rhOk s xs with
  | false =>
    have HR : Bx (restI s xs d = []) := ⟨by simp [restI, h1]⟩
    go_enter Try.func97, Try.ntmps97
    go_wp2_with fail
    rw [← hW0]
    clear hW0
    refine (rhOk_is' h1 (implRhythmOk_any _ _ _ _ _ HS.out (by exact HX.out))).mono ?_
    rintro e w1 ⟨rfl, b⟩
    replace k0 := ((bcell b).1 _ _ (by omega)).trans k0
    replace k1 := ((bcell b).1 _ _ (by omega)).trans k1
    replace HX := Bx.mk (HX.out.below b)
    replace hz := Nat.lt_of_lt_of_le hz b.size
    replace bw := bw.trans (b.mono bw.size)
    clear b
    go_wp2_with fail
    go_ret
    rw [HR.out]
    exact GivesInts.of_row (Row.nil _ _) (by simp) bw
  | true =>
  cases h2 : inB d 1 24 with
  | false =>
    have HR : Bx (restI s xs d = []) := ⟨by simp [restI, h2]⟩
    go_enter Try.func97, Try.ntmps97
    go_wp2_with fail
    rw [← hW0]
    clear hW0
    refine (rhOk_is' h1 (implRhythmOk_any _ _ _ _ _ HS.out (by exact HX.out))).mono ?_
    rintro e w1 ⟨rfl, b⟩
    replace k0 := ((bcell b).1 _ _ (by omega)).trans k0
    replace k1 := ((bcell b).1 _ _ (by omega)).trans k1
    replace HX := Bx.mk (HX.out.below b)
    replace hz := Nat.lt_of_lt_of_le hz b.size
    replace bw := bw.trans (b.mono bw.size)
    clear b
    go_wp2_with (go_at_call 61; refine (within_any _ _ _ _).mono ?_; rintro e w' ⟨rfl, rfl⟩)
    go_ret
    rw [HR.out]
    exact GivesInts.of_row (Row.nil _ _) (by simp) bw
  | true =>
    have b2 := inB_iff.1 h2
    have HR : Bx (restI s xs d = restL (polyL s xs) (cyc d.toNat)) := ⟨by simp [restI, h1, h2]⟩
    have H1 := Bx.mk h1
    obtain ⟨m, rfl⟩ := Int.eq_ofNat_of_zero_le (show 0 ≤ d by omega)
    rw [Int.toNat_natCast] at HR
    have hm1 : 1 ≤ m := by omega
    have hm2 : m ≤ 24 := by omega
    have hpl : (polyL s xs).length ≤ 1000 := Nat.le_trans (polyL_len (rhOk_iff.1 h1).1) (by omega)
    have hcs := cyc_step (n := m) (d := m) hm1 (Nat.le_refl _) hm2
    have hc1 : 1 ≤ (cyc m).length := hcs.2.2.2.1
    have hc2 : (cyc m).length ≤ 1000 := Nat.le_trans hcs.2.2.2.2 (by omega)
    clear b2 hcs
    go_enter Try.func97, Try.ntmps97
    go_wp2_with fail
    rw [← hW0]
    clear hW0
    refine (rhOk_is' h1 (implRhythmOk_any _ _ _ _ _ HS.out (by exact HX.out))).mono ?_
    rintro e w1 ⟨rfl, b⟩
    replace k0 := ((bcell b).1 _ _ (by omega)).trans k0
    replace k1 := ((bcell b).1 _ _ (by omega)).trans k1
    replace HX := Bx.mk (HX.out.below b)
    replace hz := Nat.lt_of_lt_of_le hz b.size
    replace bw := bw.trans (b.mono bw.size)
    clear b
    go_wp2_with (go_at_call 61; refine (within_any _ _ _ _).mono ?_; rintro e w' ⟨rfl, rfl⟩)
    refine (polynomial_any _ _ _ _ _ H1.out (by exact HX.out)).mono ?_
    rintro e w2 ⟨g2, c2, rfl, io2, b2⟩
    have HP := Bx.mk io2
    replace k0 := ((bcell b2).1 _ _ (by omega)).trans k0
    replace k1 := ((bcell b2).1 _ _ (by omega)).trans k1
    replace HX := Bx.mk (HX.out.below b2)
    replace hz := Nat.lt_of_lt_of_le hz b2.size
    replace bw := bw.trans (b2.mono bw.size)
    clear b2 io2
    go_wp2_with fail
    refine (cyclotomic_any m m _ (Nat.le_refl _) hm1 hm2).mono ?_
    rintro e w3 ⟨g3, c3, rfl, io3, b3⟩
    have HP3 := Bx.mk (HP.out.below b3 (Nat.le_refl _))
    have HC := Bx.mk io3
    replace bw := bw.trans (b3.mono bw.size)
    clear b3 io3 HP k0 k1 HX hz
    go_wp2_with fail
    refine (divided_any _ _ _ _ _ _ _ _ hpl hc1 hc2 (by exact HP3.out.reads) (by exact HC.out.reads)).mono ?_
    rintro e w4 ⟨g4, c4, g5, c5, rfl, _, io5, b4⟩
    have HF := Bx.mk (io5.mono bw.size)
    have HB := Bx.mk (bw.trans (b4.mono bw.size))
    clear io5 b4
    rw [← HR.out] at HF ⊢
    go_wp2_with fail
    go_ret
    exact ⟨_, c5, rfl, HF.out, HB.out⟩
set_option maxHeartbeats 1000000 in
theorem specRest_any (s : Int) (A : Option Addr) (c : Nat) (xs : List Int) (d : Int) (w : World) (hs : -9223372036854775808 ≤ s ∧ s ≤ 9223372036854775807) (hx : IR w A xs) :
    Calls Try.prog 96 #[.agg #[.int .i64 s, .slice A xs.length c], .int .i64 d] w (GivesInts w (restI s xs d)) := by
  obtain ⟨W0, hW0⟩ : ∃ W0, W0 = w.alloc (.cells #[.int .i64 s, .slice A xs.length c] 27) := ⟨_, rfl⟩
  have bw : Below w.heap.size w W0 := by rw [hW0]; exact below_alloc _ _
  have hz : w.heap.size < W0.heap.size := by rw [hW0]; simp
  have k0 : W0.cell? ⟨w.heap.size, 0, none⟩ = some (.int .i64 s) := by rw [hW0]; simp [go_sem]
  have k1 : W0.cell? ⟨w.heap.size, 1, none⟩ = some (.slice A xs.length c) := by rw [hW0]; simp [go_sem]
  have HX := Bx.mk (hx.below bw)
  have HS := Bx.mk hs
  clear hx hs
  cases h1 : rhOk s xs with
  | false =>
    have HR : Bx (restI s xs d = []) := ⟨by simp [restI, h1]⟩
    go_enter Try.func96, Try.ntmps96
    go_wp2_with fail
    rw [← hW0]
    clear hW0
    refine (rhOk_is' h1 (specRhythmOk_any _ _ _ _ _ HS.out (by exact HX.out))).mono ?_
    rintro e w1 ⟨rfl, b⟩
    replace k0 := ((bcell b).1 _ _ (by omega)).trans k0
    replace k1 := ((bcell b).1 _ _ (by omega)).trans k1
    replace HX := Bx.mk (HX.out.below b)
    replace hz := Nat.lt_of_lt_of_le hz b.size
    replace bw := bw.trans (b.mono bw.size)
    clear b
    go_wp2_with fail
    go_ret
    rw [HR.out]
    exact GivesInts.of_row (Row.nil _ _) (by simp) bw
  | true =>
  cases h2 : inB d 1 24 with
  | false =>
    have HR : Bx (restI s xs d = []) := ⟨by simp [restI, h2]⟩
    go_enter Try.func96, Try.ntmps96
    go_wp2_with fail
    rw [← hW0]
    clear hW0
    refine (rhOk_is' h1 (specRhythmOk_any _ _ _ _ _ HS.out (by exact HX.out))).mono ?_
    rintro e w1 ⟨rfl, b⟩
    replace k0 := ((bcell b).1 _ _ (by omega)).trans k0
    replace k1 := ((bcell b).1 _ _ (by omega)).trans k1
    replace HX := Bx.mk (HX.out.below b)
    replace hz := Nat.lt_of_lt_of_le hz b.size
    replace bw := bw.trans (b.mono bw.size)
    clear b
    go_wp2_with (go_at_call 60; refine (l01In_any _ _ _ _).mono ?_; rintro e w' ⟨rfl, rfl⟩)
    go_ret
    rw [HR.out]
    exact GivesInts.of_row (Row.nil _ _) (by simp) bw
  | true =>
    have b2 := inB_iff.1 h2
    have HR : Bx (restI s xs d = restL (polyL s xs) (cyc d.toNat)) := ⟨by simp [restI, h1, h2]⟩
    have H1 := Bx.mk h1
    obtain ⟨m, rfl⟩ := Int.eq_ofNat_of_zero_le (show 0 ≤ d by omega)
    rw [Int.toNat_natCast] at HR
    have hm1 : 1 ≤ m := by omega
    have hm2 : m ≤ 24 := by omega
    have hpl : (polyL s xs).length ≤ 1000 := Nat.le_trans (polyL_len (rhOk_iff.1 h1).1) (by omega)
    have hcs := cyc_step (n := m) (d := m) hm1 (Nat.le_refl _) hm2
    have hc1 : 1 ≤ (cyc m).length := hcs.2.2.2.1
    have hc2 : (cyc m).length ≤ 1000 := Nat.le_trans hcs.2.2.2.2 (by omega)
    clear b2 hcs
    go_enter Try.func96, Try.ntmps96
    go_wp2_with fail
    rw [← hW0]
    clear hW0
    refine (rhOk_is' h1 (specRhythmOk_any _ _ _ _ _ HS.out (by exact HX.out))).mono ?_
    rintro e w1 ⟨rfl, b⟩
    replace k0 := ((bcell b).1 _ _ (by omega)).trans k0
    replace k1 := ((bcell b).1 _ _ (by omega)).trans k1
    replace HX := Bx.mk (HX.out.below b)
    replace hz := Nat.lt_of_lt_of_le hz b.size
    replace bw := bw.trans (b.mono bw.size)
    clear b
    go_wp2_with (go_at_call 60; refine (l01In_any _ _ _ _).mono ?_; rintro e w' ⟨rfl, rfl⟩)
    refine (l10Of_any _ _ _ _ _ H1.out (by exact HX.out)).mono ?_
    rintro e w2 ⟨g2, c2, rfl, io2, b2⟩
    have HP := Bx.mk io2
    replace k0 := ((bcell b2).1 _ _ (by omega)).trans k0
    replace k1 := ((bcell b2).1 _ _ (by omega)).trans k1
    replace HX := Bx.mk (HX.out.below b2)
    replace hz := Nat.lt_of_lt_of_le hz b2.size
    replace bw := bw.trans (b2.mono bw.size)
    clear b2 io2
    go_wp2_with fail
    refine (l10Cyclotomic_any m m _ (Nat.le_refl _) hm1 hm2).mono ?_
    rintro e w3 ⟨g3, c3, rfl, io3, b3⟩
    have HP3 := Bx.mk (HP.out.below b3 (Nat.le_refl _))
    have HC := Bx.mk io3
    replace bw := bw.trans (b3.mono bw.size)
    clear b3 io3 HP k0 k1 HX hz
    go_wp2_with fail
    refine (l10Divide_any _ _ _ _ _ _ _ _ hpl hc1 hc2 (by exact HP3.out.reads) (by exact HC.out.reads)).mono ?_
    rintro e w4 ⟨g4, c4, g5, c5, rfl, _, io5, b4⟩
    have HF := Bx.mk (io5.mono bw.size)
    have HB := Bx.mk (bw.trans (b4.mono bw.size))
    clear io5 b4
    rw [← HR.out] at HF ⊢
    go_wp2_with fail
    go_ret
    exact ⟨_, c5, rfl, HF.out, HB.out⟩
set_option maxHeartbeats 1000000 in
theorem implVan_any (s : Int) (A : Option Addr) (c : Nat) (xs : List Int) (d : Int) (w : World) (hs : -9223372036854775808 ≤ s ∧ s ≤ 9223372036854775807) (hx : IR w A xs) :
    Calls Try.prog 85 #[.agg #[.int .i64 s, .slice A xs.length c], .int .i64 d] w fun e w' => e = .returned (.bool (vanI s xs d)) ∧ Below w.heap.size w w' := by
  obtain ⟨W0, hW0⟩ : ∃ W0, W0 = w.alloc (.cells #[.int .i64 s, .slice A xs.length c] 27) := ⟨_, rfl⟩
  have bw : Below w.heap.size w W0 := by rw [hW0]; exact below_alloc _ _
  have hz : w.heap.size < W0.heap.size := by rw [hW0]; simp
  have k0 : W0.cell? ⟨w.heap.size, 0, none⟩ = some (.int .i64 s) := by rw [hW0]; simp [go_sem]
  have k1 : W0.cell? ⟨w.heap.size, 1, none⟩ = some (.slice A xs.length c) := by rw [hW0]; simp [go_sem]
  have HX := Bx.mk (hx.below bw)
  have HS := Bx.mk hs
  clear hx hs
  cases h1 : rhOk s xs with
  | false =>
    have HR : Bx (vanI s xs d = false) := ⟨by simp [vanI, h1]⟩
    go_enter Try.func85, Try.ntmps85
    go_wp2_with fail
    rw [← hW0]
    clear hW0
    refine (rhOk_is' h1 (implRhythmOk_any _ _ _ _ _ HS.out (by exact HX.out))).mono ?_
    rintro e w1 ⟨rfl, b⟩
    replace k0 := ((bcell b).1 _ _ (by omega)).trans k0
    replace k1 := ((bcell b).1 _ _ (by omega)).trans k1
    replace HX := Bx.mk (HX.out.below b)
    replace hz := Nat.lt_of_lt_of_le hz b.size
    replace bw := bw.trans (b.mono bw.size)
    clear b
    go_wp2_with fail
    go_ret
    exact ⟨ret_bool HR.out.symm, bw⟩
  | true =>
  cases h2 : inB d 1 24 with
  | false =>
    have HR : Bx (vanI s xs d = false) := ⟨by simp [vanI, h2]⟩
    go_enter Try.func85, Try.ntmps85
    go_wp2_with fail
    rw [← hW0]
    clear hW0
    refine (rhOk_is' h1 (implRhythmOk_any _ _ _ _ _ HS.out (by exact HX.out))).mono ?_
    rintro e w1 ⟨rfl, b⟩
    replace k0 := ((bcell b).1 _ _ (by omega)).trans k0
    replace k1 := ((bcell b).1 _ _ (by omega)).trans k1
    replace HX := Bx.mk (HX.out.below b)
    replace hz := Nat.lt_of_lt_of_le hz b.size
    replace bw := bw.trans (b.mono bw.size)
    clear b
    go_wp2_with (go_at_call 61; refine (within_any _ _ _ _).mono ?_; rintro e w' ⟨rfl, rfl⟩)
    go_ret
    exact ⟨ret_bool HR.out.symm, bw⟩
  | true =>
    have HR : Bx (vanI s xs d = decide ((restI s xs d).length = 0)) := ⟨by simp [vanI, h1, h2]⟩
    go_enter Try.func85, Try.ntmps85
    go_wp2_with fail
    rw [← hW0]
    clear hW0
    refine (rhOk_is' h1 (implRhythmOk_any _ _ _ _ _ HS.out (by exact HX.out))).mono ?_
    rintro e w1 ⟨rfl, b⟩
    replace k0 := ((bcell b).1 _ _ (by omega)).trans k0
    replace k1 := ((bcell b).1 _ _ (by omega)).trans k1
    replace HX := Bx.mk (HX.out.below b)
    replace hz := Nat.lt_of_lt_of_le hz b.size
    replace bw := bw.trans (b.mono bw.size)
    clear b
    go_wp2_with (go_at_call 61; refine (within_any _ _ _ _).mono ?_; rintro e w' ⟨rfl, rfl⟩)
    refine (implRest_any _ _ _ _ _ _ HS.out (by exact HX.out)).mono ?_
    rintro e w2 ⟨A2, c2, rfl, _, b⟩
    have HB := Bx.mk (bw.trans (b.mono bw.size))
    have hlr := restI_len s xs d
    obtain ⟨L, hL⟩ : ∃ L, L = (restI s xs d).length := ⟨_, rfl⟩
    rw [← hL] at hlr HR ⊢
    clear b hL
    by_cases h0 : L = 0
    · subst h0
      go_wp2_with fail
      go_ret
      exact ⟨ret_bool (by rw [HR.out]; rfl), HB.out⟩
    · have hli : ((L : Int) == 0) = false := by simp; omega
      have HL : Bx (decide (L = 0) = false) := ⟨by simp [h0]⟩
      clear h0
      go_wp2_with fail
      go_ret
      exact ⟨ret_bool (by rw [HR.out, HL.out]), HB.out⟩
set_option maxHeartbeats 1000000 in
theorem specVan_any (s : Int) (A : Option Addr) (c : Nat) (xs : List Int) (d : Int) (w : World) (hs : -9223372036854775808 ≤ s ∧ s ≤ 9223372036854775807) (hx : IR w A xs) :
    Calls Try.prog 82 #[.agg #[.int .i64 s, .slice A xs.length c], .int .i64 d] w fun e w' => e = .returned (.bool (vanI s xs d)) ∧ Below w.heap.size w w' := by
  obtain ⟨W0, hW0⟩ : ∃ W0, W0 = w.alloc (.cells #[.int .i64 s, .slice A xs.length c] 27) := ⟨_, rfl⟩
  have bw : Below w.heap.size w W0 := by rw [hW0]; exact below_alloc _ _
  have hz : w.heap.size < W0.heap.size := by rw [hW0]; simp
  have k0 : W0.cell? ⟨w.heap.size, 0, none⟩ = some (.int .i64 s) := by rw [hW0]; simp [go_sem]
  have k1 : W0.cell? ⟨w.heap.size, 1, none⟩ = some (.slice A xs.length c) := by rw [hW0]; simp [go_sem]
  have HX := Bx.mk (hx.below bw)
  have HS := Bx.mk hs
  clear hx hs
  cases h1 : rhOk s xs with
  | false =>
    have HR : Bx (vanI s xs d = false) := ⟨by simp [vanI, h1]⟩
    go_enter Try.func82, Try.ntmps82
    go_wp2_with fail
    rw [← hW0]
    clear hW0
    refine (rhOk_is' h1 (specRhythmOk_any _ _ _ _ _ HS.out (by exact HX.out))).mono ?_
    rintro e w1 ⟨rfl, b⟩
    replace k0 := ((bcell b).1 _ _ (by omega)).trans k0
    replace k1 := ((bcell b).1 _ _ (by omega)).trans k1
    replace HX := Bx.mk (HX.out.below b)
    replace hz := Nat.lt_of_lt_of_le hz b.size
    replace bw := bw.trans (b.mono bw.size)
    clear b
    go_wp2_with fail
    go_ret
    exact ⟨ret_bool HR.out.symm, bw⟩
  | true =>
  cases h2 : inB d 1 24 with
  | false =>
    have HR : Bx (vanI s xs d = false) := ⟨by simp [vanI, h2]⟩
    go_enter Try.func82, Try.ntmps82
    go_wp2_with fail
    rw [← hW0]
    clear hW0
    refine (rhOk_is' h1 (specRhythmOk_any _ _ _ _ _ HS.out (by exact HX.out))).mono ?_
    rintro e w1 ⟨rfl, b⟩
    replace k0 := ((bcell b).1 _ _ (by omega)).trans k0
    replace k1 := ((bcell b).1 _ _ (by omega)).trans k1
    replace HX := Bx.mk (HX.out.below b)
    replace hz := Nat.lt_of_lt_of_le hz b.size
    replace bw := bw.trans (b.mono bw.size)
    clear b
    go_wp2_with (go_at_call 60; refine (l01In_any _ _ _ _).mono ?_; rintro e w' ⟨rfl, rfl⟩)
    go_ret
    exact ⟨ret_bool HR.out.symm, bw⟩
  | true =>
    have HR : Bx (vanI s xs d = decide ((restI s xs d).length = 0)) := ⟨by simp [vanI, h1, h2]⟩
    go_enter Try.func82, Try.ntmps82
    go_wp2_with fail
    rw [← hW0]
    clear hW0
    refine (rhOk_is' h1 (specRhythmOk_any _ _ _ _ _ HS.out (by exact HX.out))).mono ?_
    rintro e w1 ⟨rfl, b⟩
    replace k0 := ((bcell b).1 _ _ (by omega)).trans k0
    replace k1 := ((bcell b).1 _ _ (by omega)).trans k1
    replace HX := Bx.mk (HX.out.below b)
    replace hz := Nat.lt_of_lt_of_le hz b.size
    replace bw := bw.trans (b.mono bw.size)
    clear b
    go_wp2_with (go_at_call 60; refine (l01In_any _ _ _ _).mono ?_; rintro e w' ⟨rfl, rfl⟩)
    refine (specRest_any _ _ _ _ _ _ HS.out (by exact HX.out)).mono ?_
    rintro e w2 ⟨A2, c2, rfl, _, b⟩
    have HB := Bx.mk (bw.trans (b.mono bw.size))
    have hlr := restI_len s xs d
    obtain ⟨L, hL⟩ : ∃ L, L = (restI s xs d).length := ⟨_, rfl⟩
    rw [← hL] at hlr HR ⊢
    clear b hL
    by_cases h0 : L = 0
    · subst h0
      go_wp2_with fail
      go_ret
      exact ⟨ret_bool (by rw [HR.out]; rfl), HB.out⟩
    · have hli : ((L : Int) == 0) = false := by simp; omega
      have HL : Bx (decide (L = 0) = false) := ⟨by simp [h0]⟩
      clear h0
      go_wp2_with fail
      go_ret
      exact ⟨ret_bool (by rw [HR.out, HL.out]), HB.out⟩
end Go.Proofs.Ytbgfhbaaacmndaa
