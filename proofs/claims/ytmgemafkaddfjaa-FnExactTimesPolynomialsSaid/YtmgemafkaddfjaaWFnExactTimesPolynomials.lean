/- The law on TimesPolynomials, walked. -/
import Derived.Test.YtmgemafkaddfjaaTimes
import Derived.Test.YtmgemafkaddfjaaLawRh
import Derived.Test.YtmgemafkaddfjaaFinRh
import Derived.Test.YtmgemafkaddfjaaObjs
import Derived.Test.YtmgemafkaddfjaaBxB
import Derived.Test.YtmgemafkaddfjaaLawCn
import Derived.Deep.RegionHeld3
import Derived.Deep.DeepCutAuto
namespace Go.Proofs.Ytmgemafkaddfjaa
open Go.RowKit

theorem toIntS_b' (A : Option Addr) (c : Nat) (xs : List Int) (w : World) (hx : IR w A xs) :
    Calls Try.prog 36 #[.slice A xs.length c] w fun e w' => ∃ A' c', e = .returned (.slice A' xs.length c') ∧ IO w' w.heap.size A' c' xs ∧ Below w.heap.size w w' := toIntS_any A c xs w hx
set_option maxHeartbeats 4000000 in
set_option maxRecDepth 20000 in
theorem walkFnExactTimesPolynomials (w : World) (A0 : Option Addr) (c0 : Nat) (xs0 : List Int) (ha0 : AR .i64 w A0 xs0) (_hf0 : Fits xs0) (A1 : Option Addr) (c1 : Nat) (xs1 : List Int) (ha1 : AR .i64 w A1 xs1) (_hf1 : Fits xs1) :
    Calls Try.prog 7 #[.slice A0 xs0.length c0, .slice A1 xs1.length c1] w fun e w' => e = .returned (.bool true) ∧ Below w.heap.size w w' := by
  have bw : Below w.heap.size w w := Below.refl _ _
  by_cases h0 : (xs0.length : Int) ≤ 1048576
  rotate_left
  · have hn0 : (1048576 : Int) < xs0.length := by omega
    go_enter Try.func7, Try.ntmps7
    go_wp2_with fail
    go_ret
    exact ⟨rfl, Below.refl _ _⟩
  by_cases h1 : (xs1.length : Int) ≤ 1048576
  rotate_left
  · have hn1 : (1048576 : Int) < xs1.length := by omega
    have hn0 : ¬ (1048576 : Int) < xs0.length := by omega
    go_enter Try.func7, Try.ntmps7
    go_wp2_with fail
    go_ret
    exact ⟨rfl, Below.refl _ _⟩
  have hn0 : ¬ (1048576 : Int) < xs0.length := by omega
  have hml0 := ha0.1
  have hn1 : ¬ (1048576 : Int) < xs1.length := by omega
  have hml1 := ha1.1
  have HX0 := Bx.mk ((RB.of_ir (ha0.ir (by omega))).below bw (Nat.le_refl _))
  clear ha0
  have HX1 := Bx.mk ((RB.of_ir (ha1.ir (by omega))).below bw (Nat.le_refl _))
  clear ha1
  go_enter Try.func7, Try.ntmps7
  go_wp2_with fail
  refine (toIntS_b' _ _ _ _ (by exact HX0.out.ir)).mono ?_
  rintro e w1 ⟨w1A, w1c, rfl, w1io, b⟩
  have HT0 := Bx.mk (OB.of w1io (Nat.le_refl _))
  clear w1io
  have zw1 := b.size
  replace bw := bw.trans (b.mono bw.size)
  replace HX0 := Bx.mk (HX0.out.below b (by omega))
  replace HX1 := Bx.mk (HX1.out.below b (by omega))
  clear b
  go_wp2_with fail
  refine (toIntS_b' _ _ _ _ (by exact HX1.out.ir)).mono ?_
  rintro e w2 ⟨w2A, w2c, rfl, w2io, b⟩
  have HT1 := Bx.mk (OB.of w2io (Nat.le_refl _))
  clear w2io
  have zw2 := b.size
  replace bw := bw.trans (b.mono bw.size)
  replace HX0 := Bx.mk (HX0.out.below b (by omega))
  replace HX1 := Bx.mk (HX1.out.below b (by omega))
  replace HT0 := Bx.mk (HT0.out.below b (by omega))
  clear b
  go_wp2_with fail
  refine (specTimes_any _ _ _ _ _ _ _ (by exact HT0.out.ir) (by exact HT1.out.ir)).mono ?_
  rintro e w3 ⟨w3A, w3c, rfl, w3io, b⟩
  clear HT0
  clear HT1
  have zw3 := b.size
  replace bw := bw.trans (b.mono bw.size)
  replace HX0 := Bx.mk (HX0.out.below b (by omega))
  replace HX1 := Bx.mk (HX1.out.below b (by omega))
  clear b
  have HW := Bx.mk (OB.of (w3io.mono (by first | omega | (simp <;> omega) : w2.heap.size ≤ _)) (Nat.le_refl _))
  clear w3io
  go_wp2_with fail
  refine (toIntS_b' _ _ _ _ (by exact HX0.out.ir)).mono ?_
  rintro e w4 ⟨w4A, w4c, rfl, w4io, b⟩
  have zw4 := b.size
  replace bw := bw.trans (b.mono bw.size)
  replace HX0 := Bx.mk (HX0.out.below b (by omega))
  replace HX1 := Bx.mk (HX1.out.below b (by omega))
  replace HW := Bx.mk (HW.out.below b (by omega))
  clear b
  have HC0 := Bx.mk (OB.of (w4io.mono (by first | omega | (simp <;> omega) : w3.heap.size ≤ _)) (Nat.le_refl _))
  clear w4io
  go_wp2_with fail
  refine (toIntS_b' _ _ _ _ (by exact HX1.out.ir)).mono ?_
  rintro e w5 ⟨w5A, w5c, rfl, w5io, b⟩
  have zw5 := b.size
  replace bw := bw.trans (b.mono bw.size)
  replace HX0 := Bx.mk (HX0.out.below b (by omega))
  replace HX1 := Bx.mk (HX1.out.below b (by omega))
  replace HW := Bx.mk (HW.out.below b (by omega))
  replace HC0 := Bx.mk (HC0.out.below b (by omega))
  clear b
  have HC1 := Bx.mk (OB.of (w5io.mono (by first | omega | (simp <;> omega) : w4.heap.size ≤ _)) (Nat.le_refl _))
  clear w5io
  go_wp2_with fail
  refine (implTimes_any _ _ _ _ _ _ _ (by exact HC0.out.ir) (by exact HC1.out.ir)).mono ?_
  rintro e w6 ⟨w6A, w6c, rfl, w6io, b⟩
  have zw6 := b.size
  replace bw := bw.trans (b.mono bw.size)
  replace HX0 := Bx.mk (HX0.out.below b (by omega))
  replace HX1 := Bx.mk (HX1.out.below b (by omega))
  replace HW := Bx.mk (HW.out.below b (by omega))
  replace HC0 := Bx.mk (HC0.out.below b (by omega))
  replace HC1 := Bx.mk (HC1.out.below b (by omega))
  clear b
  have HG := Bx.mk (OB.of (w6io.mono (by first | omega | (simp <;> omega) : w5.heap.size ≤ _)) (Nat.le_refl _))
  clear w6io
  go_wp2_with fail
  refine (eqIntS_b _ _ _ _ _ _ _ (by exact HG.out.ir) (by exact HW.out.ir)).mono ?_
  rintro e w7 ⟨rfl, b⟩
  have zw7 := b.size
  replace bw := bw.trans (b.mono bw.size)
  replace HX0 := Bx.mk (HX0.out.below b (by omega))
  replace HX1 := Bx.mk (HX1.out.below b (by omega))
  replace HW := Bx.mk (HW.out.below b (by omega))
  replace HC0 := Bx.mk (HC0.out.below b (by omega))
  replace HC1 := Bx.mk (HC1.out.below b (by omega))
  replace HG := Bx.mk (HG.out.below b (by omega))
  clear b
  go_wp2_with fail
  refine (toIntS_b' _ _ _ _ (by exact HX0.out.ir)).mono ?_
  rintro e w8 ⟨w8A, w8c, rfl, w8io, b⟩
  have HT := Bx.mk (OB.of w8io (Nat.le_refl _))
  clear w8io
  have zw8 := b.size
  replace bw := bw.trans (b.mono bw.size)
  replace HX0 := Bx.mk (HX0.out.below b (by omega))
  replace HX1 := Bx.mk (HX1.out.below b (by omega))
  replace HW := Bx.mk (HW.out.below b (by omega))
  replace HC0 := Bx.mk (HC0.out.below b (by omega))
  replace HC1 := Bx.mk (HC1.out.below b (by omega))
  replace HG := Bx.mk (HG.out.below b (by omega))
  clear b
  go_wp2_with fail
  refine (eqIntS_b _ _ _ _ _ _ _ (by exact HC0.out.ir) (by exact HT.out.ir)).mono ?_
  rintro e w9 ⟨rfl, b⟩
  clear HT
  have zw9 := b.size
  replace bw := bw.trans (b.mono bw.size)
  replace HX0 := Bx.mk (HX0.out.below b (by omega))
  replace HX1 := Bx.mk (HX1.out.below b (by omega))
  replace HW := Bx.mk (HW.out.below b (by omega))
  replace HC0 := Bx.mk (HC0.out.below b (by omega))
  replace HC1 := Bx.mk (HC1.out.below b (by omega))
  replace HG := Bx.mk (HG.out.below b (by omega))
  clear b
  go_wp2_with fail
  refine (toIntS_b' _ _ _ _ (by exact HX1.out.ir)).mono ?_
  rintro e w10 ⟨w10A, w10c, rfl, w10io, b⟩
  have HT := Bx.mk (OB.of w10io (Nat.le_refl _))
  clear w10io
  have zw10 := b.size
  replace bw := bw.trans (b.mono bw.size)
  replace HX0 := Bx.mk (HX0.out.below b (by omega))
  replace HX1 := Bx.mk (HX1.out.below b (by omega))
  replace HW := Bx.mk (HW.out.below b (by omega))
  replace HC0 := Bx.mk (HC0.out.below b (by omega))
  replace HC1 := Bx.mk (HC1.out.below b (by omega))
  replace HG := Bx.mk (HG.out.below b (by omega))
  clear b
  go_wp2_with fail
  refine (eqIntS_b _ _ _ _ _ _ _ (by exact HC1.out.ir) (by exact HT.out.ir)).mono ?_
  rintro e w11 ⟨rfl, b⟩
  clear HT
  have zw11 := b.size
  replace bw := bw.trans (b.mono bw.size)
  replace HX0 := Bx.mk (HX0.out.below b (by omega))
  replace HX1 := Bx.mk (HX1.out.below b (by omega))
  replace HW := Bx.mk (HW.out.below b (by omega))
  replace HC0 := Bx.mk (HC0.out.below b (by omega))
  replace HC1 := Bx.mk (HC1.out.below b (by omega))
  replace HG := Bx.mk (HG.out.below b (by omega))
  clear b
  go_wp2_with fail
  refine (markIntS_any _ _ _ _ _ _ (by exact HC0.out.io) (by omega) (by omega)).mono ?_
  rintro e w12 ⟨rfl, m, o⟩
  have zw12 := o.size
  replace bw := bw.trans (HC0.out.bl o (by omega) (by omega))
  replace HX0 := Bx.mk (HX0.out.only o HC0.out (by omega))
  replace HX1 := Bx.mk (HX1.out.only o HC0.out (by omega))
  replace HW := Bx.mk (HW.out.only o HC0.out (by omega))
  replace HC1 := Bx.mk (HC1.out.only o HC0.out (by omega))
  replace HG := Bx.mk (HG.out.only o HC0.out (by omega))
  replace HC0 := Bx.mk (HC0.out.marked m)
  clear o m
  go_wp2_with fail
  refine (markIntS_any _ _ _ _ _ _ (by exact HC1.out.io) (by omega) (by omega)).mono ?_
  rintro e w13 ⟨rfl, m, o⟩
  have zw13 := o.size
  replace bw := bw.trans (HC1.out.bl o (by omega) (by omega))
  replace HX0 := Bx.mk (HX0.out.only o HC1.out (by omega))
  replace HX1 := Bx.mk (HX1.out.only o HC1.out (by omega))
  replace HW := Bx.mk (HW.out.only o HC1.out (by omega))
  replace HC0 := Bx.mk (HC0.out.only o HC1.out (by omega))
  replace HG := Bx.mk (HG.out.only o HC1.out (by omega))
  replace HC1 := Bx.mk (HC1.out.marked m)
  clear o m
  go_wp2_with fail
  refine (eqIntS_b _ _ _ _ _ _ _ (by exact HG.out.ir) (by exact HW.out.ir)).mono ?_
  rintro e w14 ⟨rfl, b⟩
  have zw14 := b.size
  replace bw := bw.trans (b.mono bw.size)
  replace HX0 := Bx.mk (HX0.out.below b (by omega))
  replace HX1 := Bx.mk (HX1.out.below b (by omega))
  replace HW := Bx.mk (HW.out.below b (by omega))
  replace HC0 := Bx.mk (HC0.out.below b (by omega))
  replace HC1 := Bx.mk (HC1.out.below b (by omega))
  replace HG := Bx.mk (HG.out.below b (by omega))
  clear b
  go_wp2_with fail
  refine (markIntS_any _ _ _ _ _ _ (by exact HG.out.io) (by omega) (by omega)).mono ?_
  rintro e w15 ⟨rfl, m, o⟩
  have zw15 := o.size
  replace bw := bw.trans (HG.out.bl o (by omega) (by omega))
  replace HX0 := Bx.mk (HX0.out.only o HG.out (by omega))
  replace HX1 := Bx.mk (HX1.out.only o HG.out (by omega))
  replace HW := Bx.mk (HW.out.only o HG.out (by omega))
  replace HC0 := Bx.mk (HC0.out.only o HG.out (by omega))
  replace HC1 := Bx.mk (HC1.out.only o HG.out (by omega))
  replace HG := Bx.mk (HG.out.marked m)
  clear o m
  go_wp2_with fail
  refine (heldIntS_b _ _ _ _ _ (by exact HG.out.ir) (by omega) (by omega)).mono ?_
  rintro e w16 ⟨rfl, b⟩
  have zw16 := b.size
  replace bw := bw.trans (b.mono bw.size)
  replace HX0 := Bx.mk (HX0.out.below b (by omega))
  replace HX1 := Bx.mk (HX1.out.below b (by omega))
  replace HW := Bx.mk (HW.out.below b (by omega))
  replace HC0 := Bx.mk (HC0.out.below b (by omega))
  replace HC1 := Bx.mk (HC1.out.below b (by omega))
  replace HG := Bx.mk (HG.out.below b (by omega))
  clear b
  go_wp2_with fail
  refine (toIntS_b' _ _ _ _ (by exact HX0.out.ir)).mono ?_
  rintro e w17 ⟨w17A, w17c, rfl, w17io, b⟩
  have HT0 := Bx.mk (OB.of w17io (Nat.le_refl _))
  clear w17io
  have zw17 := b.size
  replace bw := bw.trans (b.mono bw.size)
  replace HX0 := Bx.mk (HX0.out.below b (by omega))
  replace HX1 := Bx.mk (HX1.out.below b (by omega))
  replace HW := Bx.mk (HW.out.below b (by omega))
  replace HC0 := Bx.mk (HC0.out.below b (by omega))
  replace HC1 := Bx.mk (HC1.out.below b (by omega))
  replace HG := Bx.mk (HG.out.below b (by omega))
  clear b
  go_wp2_with fail
  refine (toIntS_b' _ _ _ _ (by exact HX1.out.ir)).mono ?_
  rintro e w18 ⟨w18A, w18c, rfl, w18io, b⟩
  have HT1 := Bx.mk (OB.of w18io (Nat.le_refl _))
  clear w18io
  have zw18 := b.size
  replace bw := bw.trans (b.mono bw.size)
  replace HX0 := Bx.mk (HX0.out.below b (by omega))
  replace HX1 := Bx.mk (HX1.out.below b (by omega))
  replace HW := Bx.mk (HW.out.below b (by omega))
  replace HC0 := Bx.mk (HC0.out.below b (by omega))
  replace HC1 := Bx.mk (HC1.out.below b (by omega))
  replace HG := Bx.mk (HG.out.below b (by omega))
  replace HT0 := Bx.mk (HT0.out.below b (by omega))
  clear b
  go_wp2_with fail
  refine (implTimes_any _ _ _ _ _ _ _ (by exact HT0.out.ir) (by exact HT1.out.ir)).mono ?_
  rintro e w19 ⟨w19A, w19c, rfl, w19io, b⟩
  clear HT0
  clear HT1
  have zw19 := b.size
  replace bw := bw.trans (b.mono bw.size)
  replace HX0 := Bx.mk (HX0.out.below b (by omega))
  replace HX1 := Bx.mk (HX1.out.below b (by omega))
  replace HW := Bx.mk (HW.out.below b (by omega))
  replace HC0 := Bx.mk (HC0.out.below b (by omega))
  replace HC1 := Bx.mk (HC1.out.below b (by omega))
  replace HG := Bx.mk (HG.out.below b (by omega))
  clear b
  have HH := Bx.mk (OB.of (w19io.mono (by first | omega | (simp <;> omega) : w18.heap.size ≤ _)) (Nat.le_refl _))
  clear w19io
  go_wp2_with fail
  refine (eqIntS_b _ _ _ _ _ _ _ (by exact HH.out.ir) (by exact HW.out.ir)).mono ?_
  rintro e w20 ⟨rfl, b⟩
  have zw20 := b.size
  replace bw := bw.trans (b.mono bw.size)
  replace HX0 := Bx.mk (HX0.out.below b (by omega))
  replace HX1 := Bx.mk (HX1.out.below b (by omega))
  replace HW := Bx.mk (HW.out.below b (by omega))
  replace HC0 := Bx.mk (HC0.out.below b (by omega))
  replace HC1 := Bx.mk (HC1.out.below b (by omega))
  replace HG := Bx.mk (HG.out.below b (by omega))
  replace HH := Bx.mk (HH.out.below b (by omega))
  clear b
  go_wp2_with fail
  refine (heldIntS_b _ _ _ _ _ (by exact HG.out.ir) (by omega) (by omega)).mono ?_
  rintro e w21 ⟨rfl, b⟩
  have zw21 := b.size
  replace bw := bw.trans (b.mono bw.size)
  replace HX0 := Bx.mk (HX0.out.below b (by omega))
  replace HX1 := Bx.mk (HX1.out.below b (by omega))
  replace HW := Bx.mk (HW.out.below b (by omega))
  replace HC0 := Bx.mk (HC0.out.below b (by omega))
  replace HC1 := Bx.mk (HC1.out.below b (by omega))
  replace HG := Bx.mk (HG.out.below b (by omega))
  replace HH := Bx.mk (HH.out.below b (by omega))
  clear b
  go_wp2_with fail
  go_ret
  exact ⟨rfl, bw⟩
end Go.Proofs.Ytmgemafkaddfjaa
