/- Two rhythms of one size; how often each pulse is a sum. -/
import Derived.Test.YtihbgpcmphemmaaSumC
import Derived.Test.YtihbgpcmphemmaaBas
namespace Go.Proofs.Ytihbgpcmphemmaa
open Go.RowKit

def twoOk (s : Int) (xs : List Int) (t : Int) (ys : List Int) : Bool := rhOk s xs && rhOk t ys && (s == t)
theorem twoOk_iff {s t : Int} {xs ys : List Int} : twoOk s xs t ys = true ↔ rhOk s xs = true ∧ rhOk t ys = true ∧ s = t := by simp [twoOk, and_assoc]
def sumCL (s : Int) (xs : List Int) (t : Int) (ys : List Int) : List Int := if twoOk s xs t ys = true then sumC s xs ys else []
end Go.Proofs.Ytihbgpcmphemmaa
