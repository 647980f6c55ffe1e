/- How the data that come in are opened into the words of the walks. -/
import Derived.Test.YtjpdlpegcfpcdaaBase
import Derived.ProofKit
import Derived.OpenShut
import Derived.ChangeOld
import Derived.Lib.SmallJoins
namespace Go.Proofs.Ytjpdlpegcfpcdaa
open Go.RowKit

open Go.ChangeShapes Go.WideShapes Go.ChangeAt Go.Joins
section
variable {H : Type} {enc : TypeId × Value → H} {P : Program} {w : World} {base : Nat} {spare : Nat → Bool} {held : Bool}
theorem AR_of_cells {k : IntKind} {w : World} {a : Addr} {xs : List Int} (hlt : a.block < w.heap.size) (hc : ∀ i, i < xs.length → w.cell? (a.add i) = some (.int k (xs.getD i 0))) (h0 : 0 < xs.length) :
    ∃ b o, some a = some (⟨b, o, none⟩ : Addr) ∧ b < w.heap.size ∧ ∀ j, j < xs.length → w.cell? ⟨b, o + j, none⟩ = some (.int k (xs[j]?.getD 0)) := by
  obtain ⟨b, o, s⟩ := a
  have h00 := hc 0 h0
  have hs : s = none := by
    cases s with
    | none => rfl
    | some y =>
      simp [Addr.add, World.cell?] at h00
      split at h00 <;> simp at h00
  subst hs
  refine ⟨b, o, rfl, hlt, fun j hj => ?_⟩
  have h := hc j hj
  have ha : (⟨b, o, none⟩ : Addr).add j = ⟨b, o + j, none⟩ := by unfold Addr.add; split <;> simp_all
  rw [ha] at h
  simpa using h
end
end Go.Proofs.Ytjpdlpegcfpcdaa
