/- The second condition of the reference; both conditions. -/
import Derived.Test.YtbfaagdcifpcgaaGreatDoorMsS
import Derived.Deep.RegionHeld3
import Derived.Deep.DeepCutAuto
import Derived.Deep.RegionWith
namespace Go.Proofs.YtbfaagdcifpcgaaGreatDoor
open Go.RowKit
set_option maxRecDepth 20000

theorem ms_form {s : Int} {xs : List Int} (hok : rhOk s xs = true) : msI s xs = (hM (ordI s xs) 1 && lLoop (hM (ordI s xs)) (ppI s xs) [] 1) := by
  unfold msI
  rw [hok, aP_lLoop _ _ [] 1 (ppI_pp hok) inv_one]; rfl
def mbI (s : Int) (xs : List Int) : Bool := mfI s xs && msI s xs
theorem lit_is {f : FuncId} {args : Array Value} {w : World} {a b : Bool} (hb : a = b) (h : Calls Tryz.prog f args w fun e w' => e = .returned (.bool a) ∧ Below w.heap.size w w') :
    Calls Tryz.prog f args w fun e w' => e = .returned (.bool b) ∧ Below w.heap.size w w' := by rw [← hb]; exact h
end Go.Proofs.YtbfaagdcifpcgaaGreatDoor
