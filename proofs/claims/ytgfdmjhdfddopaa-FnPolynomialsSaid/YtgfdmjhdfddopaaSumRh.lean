/- The sum of two rhythms and whether it is there. -/
import Derived.Test.YtgfdmjhdfddopaaTls
namespace Go.Proofs.Ytgfdmjhdfddopaa
open Go.RowKit
set_option maxRecDepth 20000

def sumRs (s : Int) (xs : List Int) (t : Int) (ys : List Int) : Int := if twoOk s xs t ys = true then s else 0
def sumRl (s : Int) (xs : List Int) (t : Int) (ys : List Int) : List Int := if twoOk s xs t ys = true then sumL s xs ys else []
theorem sumL_len {s : Int} {xs ys : List Int} (h : rhOk s xs = true) : (sumL s xs ys).length ≤ 24 := by
  have := (rhOk_iff.1 h).1
  have := selTo_len (sumP (sumC s xs ys)) s.toNat
  unfold sumL
  omega
end Go.Proofs.Ytgfdmjhdfddopaa
