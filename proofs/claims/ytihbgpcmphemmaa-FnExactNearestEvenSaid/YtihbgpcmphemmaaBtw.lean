/- Sums between bounds: direct sums and tilings in the reference's words. -/
import Derived.Test.YtihbgpcmphemmaaTwo
namespace Go.Proofs.Ytihbgpcmphemmaa
open Go.RowKit

def btw (s : Int) (xs : List Int) (t : Int) (ys : List Int) (lo hi : Int) : Bool := twoOk s xs t ys && (sumC s xs ys).all (fun n => inB n lo hi)
theorem all_take_step {p : Int → Bool} {l : List Int} {k : Nat} {x : Int} (h : (l.take k).all p = true) (hx : l[k]? = some x) (hp : p x = true) : (l.take (k + 1)).all p = true := by
  rw [List.take_add_one, hx]
  simp only [List.all_append, h, Option.toList_some, List.all_cons, List.all_nil, Bool.and_true, hp]
theorem all_no {p : Int → Bool} {l : List Int} {k : Nat} {x : Int} (hx : l[k]? = some x) (hp : p x = false) : l.all p = false := by
  rw [Bool.eq_false_iff]
  intro h
  rw [List.all_eq_true] at h
  have := h x (List.mem_of_getElem? hx)
  rw [hp] at this
  cases this
end Go.Proofs.Ytihbgpcmphemmaa
