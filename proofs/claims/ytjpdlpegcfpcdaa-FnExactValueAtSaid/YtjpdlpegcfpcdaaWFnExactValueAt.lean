/- The law on ValueAt, walked. -/
import Derived.Test.YtjpdlpegcfpcdaaValueAt
import Derived.Test.YtjpdlpegcfpcdaaEqInt
import Derived.Test.YtjpdlpegcfpcdaaFinWords
import Derived.Test.YtjpdlpegcfpcdaaApp
namespace Go.Proofs.Ytjpdlpegcfpcdaa
open Go.RowKit

theorem toIntS_b (A : Option Addr) (c : Nat) (xs : List Int) (w : World) (hx : IR w A xs) :
    Calls Try.prog 22 #[.slice A xs.length c] w (GivesInts w xs) := toIntS_any A c xs w hx
set_option maxHeartbeats 400000 in
theorem walkFnExactValueAt (w : World) (A : Option Addr) (c : Nat) (xs : List Int) (ha : AR .i64 w A xs) (_hf : Fits xs) (x : Int) (_hn : -9223372036854775808 ≤ x ∧ x ≤ 9223372036854775807) :
    Calls Try.prog 7 #[.slice A xs.length c, .int .i64 x] w fun e w' => e = .returned (.bool true) ∧ Below w.heap.size w w' := by
  by_cases h0 : 1048576 < xs.length
  · have b0 : (1048576 : Int) < xs.length := by omega
    go_enter Try.func7, Try.ntmps7
    go_wp2
    go_ret
    exact ⟨rfl, Below.refl _ _⟩
  · have b0 : ¬ (1048576 : Int) < xs.length := by omega
    have hx := ha.ir (by omega)
    clear ha
    go_enter Try.func7, Try.ntmps7
    go_wp2_with fail
    refine (toIntS_b _ _ _ _ (by exact hx)).mono ?_
    rintro e w1 ⟨A1, c1, rfl, io1, b1⟩
    go_wp2_with fail
    refine (specValueAt_any _ _ _ _ _ (by exact io1.reads)).mono ?_
    rintro e w' ⟨rfl, rfl⟩
    unfold two
    go_wp2_with fail
    refine (toIntS_b _ _ _ _ (by exact hx.below b1)).mono ?_
    rintro e w2 ⟨A2, c2, rfl, io2, b2⟩
    have b02 := b1.trans (b2.mono b1.size)
    go_wp2_with fail
    refine (implValueAt_any _ _ _ _ _ (by exact io2.reads)).mono ?_
    rintro e w3 ⟨rfl, b3⟩
    have b03 := b02.trans (b3.mono b02.size)
    unfold two
    go_wp2_with fail
    refine (toIntS_b _ _ _ _ (by exact hx.below b03)).mono ?_
    rintro e w4 ⟨A4, c4, rfl, io4, b4⟩
    have b04 := b03.trans (b4.mono b03.size)
    go_wp2_with fail
    refine (eqIntS_b _ _ _ _ _ _ _ (by exact io2.reads.below (b3.trans (b4.mono b3.size))) (by exact io4.reads)).mono ?_
    rintro e w5 ⟨rfl, b5⟩
    go_wp2_with fail
    go_ret
    exact ⟨rfl, b04.trans (b5.mono b04.size)⟩
end Go.Proofs.Ytjpdlpegcfpcdaa
