/- The law on DivisorsOf, walked. -/
import Derived.Test.YtjpdlpegcfpcdaaDivs
import Derived.Test.YtjpdlpegcfpcdaaEqInt
namespace Go.Proofs.Ytjpdlpegcfpcdaa
open Go.RowKit

set_option maxHeartbeats 400000 in
theorem walkFnExactDivisorsOf (n : Int) (_hn : -9223372036854775808 ≤ n ∧ n ≤ 9223372036854775807) (w : World) :
    Calls Try.prog 6 #[.int .i64 n] w fun e w' => e = .returned (.bool true) ∧ Below w.heap.size w w' := by
  have hlx := divs_len n
  go_enter Try.func6, Try.ntmps6
  go_wp2_with fail
  refine (specDivisorsOf_any n _).mono ?_
  rintro e w1 ⟨A0, c0, rfl, io0, b1⟩
  go_wp2_with fail
  refine (implDivisorsOf_any n _).mono ?_
  rintro e w2 ⟨A1, c1, rfl, io1, b2⟩
  go_wp2_with fail
  refine (eqIntS_b _ _ _ _ _ _ _ (by exact io1.reads) (by exact io0.reads.below b2)).mono ?_
  rintro e w3 ⟨rfl, b3⟩
  go_wp2_with fail
  refine (markIntS_any _ _ _ _ _ _ (by exact io1.below b3 (Nat.le_refl _)) (by omega) (by omega)).mono ?_
  rintro e w4 ⟨rfl, io1m, o4⟩
  have b14 : Below w1.heap.size w1 w4 := (b2.trans (b3.mono b2.size)).trans (Only.below o4 (b2.trans (b3.mono b2.size)).size io1.ge)
  go_wp2_with fail
  refine (heldIntS_b _ _ _ _ _ (by exact io1m.reads) (by omega) (by omega)).mono ?_
  rintro e w5 ⟨rfl, b5⟩
  go_wp2_with fail
  refine (implDivisorsOf_any n _).mono ?_
  rintro e w6 ⟨A2, c2, rfl, io2, b6⟩
  have b46 := b5.trans (b6.mono b5.size)
  have b16 : Below w1.heap.size w1 w6 := b14.trans (b46.mono b14.size)
  go_wp2_with fail
  refine (eqIntS_b _ _ _ _ _ _ _ (by exact io2.reads) (by exact io0.reads.below b16)).mono ?_
  rintro e w7 ⟨rfl, b7⟩
  go_wp2_with fail
  refine (heldIntS_b _ _ _ _ _ (by exact io1m.reads.below (b46.trans (b7.mono b46.size))) (by omega) (by omega)).mono ?_
  rintro e w8 ⟨rfl, b8⟩
  have b18 := (b16.trans (b7.mono b16.size)).trans (b8.mono (b16.trans (b7.mono b16.size)).size)
  go_wp2_with fail
  go_ret
  exact ⟨rfl, b1.trans (b18.mono b1.size)⟩
end Go.Proofs.Ytjpdlpegcfpcdaa
