/- The prime powers among the orders; the first condition. -/
import Derived.Test.YtbfaagdcifpcgaaGreatDoorOrd
import Derived.Test.YtbfaagdcifpcgaaGreatDoorDvs
import Derived.Test.YtbfaagdcifpcgaaGreatDoorPrimeOf
import Derived.Test.YtbfaagdcifpcgaaGreatDoorBas
import Derived.Test.YtbfaagdcifpcgaaGreatDoorTls
namespace Go.Proofs.YtbfaagdcifpcgaaGreatDoor
open Go.RowKit
set_option maxRecDepth 20000

def ppP (d : Int) : Bool := primeI d == 0
def ppI (s : Int) (xs : List Int) : List Int := (ordI s xs).filter (qn ppP)
theorem ppI_len (s : Int) (xs : List Int) : (ppI s xs).length ≤ 24 := Nat.le_trans (List.length_filter_le _ _) (ordI_len s xs)
def prodTo (l : List Int) : Nat → Int
  | 0 => 1
  | k + 1 => IntKind.i64.wrap (prodTo l k * primeI (l[k]?.getD 0))
theorem prodTo_step {l : List Int} {k : Nat} {x : Int} (h : l[k]? = some x) : prodTo l (k + 1) = IntKind.i64.wrap (prodTo l k * primeI x) := by simp [prodTo, h]
def mfI (s : Int) (xs : List Int) : Bool := rhOk s xs && (prodTo (ppI s xs) (ppI s xs).length == (xs.length : Int))
theorem ftake_hit {q : Int → Bool} {L : List Int} {k : Nat} {x : Int} (h : L[k]? = some x) (hq : q x = true) : (L.take (k + 1)).filter q = (L.take k).filter q ++ [x] := by
  rw [List.take_add_one, h, List.filter_append]; simp [hq]
theorem ftake_miss {q : Int → Bool} {L : List Int} {k : Nat} {x : Int} (h : L[k]? = some x) (hq : q x = false) : (L.take (k + 1)).filter q = (L.take k).filter q := by
  rw [List.take_add_one, h, List.filter_append]; simp [hq]
theorem ftake_len (q : Int → Bool) (L : List Int) (k : Nat) : ((L.take k).filter q).length ≤ L.length := Nat.le_trans (List.length_filter_le _ _) (by rw [List.length_take]; omega)
theorem primeI_nn (n : Int) : 0 ≤ primeI n := by
  unfold primeI
  split
  · rename_i h
    obtain ⟨p, hp⟩ := lp_exists n h.1
    obtain ⟨t, ht⟩ := divs_two n p hp h.2
    rw [ht]
    have := hp.two
    simp only [List.getElem?_cons_succ, List.getElem?_cons_zero, Option.getD_some]
    split <;> omega
  · omega
end Go.Proofs.YtbfaagdcifpcgaaGreatDoor
