/- Whether a rhythm has a beat on a pulse, around; the code of a rhythm; whether it avoids a difference. -/
import Derived.Test.YtckgpkkflfhfpaaRh
import Derived.Test.YtckgpkkflfhfpaaMem
import Derived.Test.YtckgpkkflfhfpaaAvoids
import Derived.Test.YtckgpkkflfhfpaaGate
import Derived.Deep.RegionHeld3
import Derived.Deep.DeepCutAuto
namespace Go.Proofs.Ytckgpkkflfhfpaa
open Go.RowKit

def hasR (s : Int) (xs : List Int) (k : Int) : Bool := memB xs (k % s)
set_option maxHeartbeats 400000 in
theorem has_any (s : Int) (A : Option Addr) (c : Nat) (xs : List Int) (k : Int) (w : World) (hs : 1 ≤ s ∧ s ≤ 24) (hk : -1000000000 ≤ k ∧ k ≤ 1000000000) (hx : IR w A xs) :
    Calls Try.prog 38 #[.agg #[.int .i64 s, .slice A xs.length c], .int .i64 k] w fun e w' => e = .returned (.bool (hasR s xs k)) ∧ Below w.heap.size w w' := by
  have hx1 := Bx.mk (hx.below (below_alloc w (.cells #[.int .i64 s, .slice A xs.length c] 27)))
  obtain ⟨hs1, hs2⟩ := hs
  go_enter Try.func38, Try.ntmps38
  go_wp2
  go_quiet ((first | (go_at_call 56; exact q_same (remainder_any _ _ hs1 (by omega) (by omega) _)) | (go_at_call 29; exact q_same (contains_any _ _ _ _ _ (by exact hx1.out)))))
  go_wp2
  go_ret
  exact ⟨rfl, below_alloc_drewN _ _ _⟩
end Go.Proofs.Ytckgpkkflfhfpaa
