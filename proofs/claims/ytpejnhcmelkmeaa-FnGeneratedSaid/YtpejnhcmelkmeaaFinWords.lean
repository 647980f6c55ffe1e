/- How the data that come in are opened into the words of the walks. -/
import Derived.Test.YtpejnhcmelkmeaaBas
import Derived.ProofKit
import Derived.OpenShut
import Derived.ChangeOld
import Derived.Lib.SmallJoins
namespace Go.Proofs.Ytpejnhcmelkmeaa
open Go.RowKit

open Go.ChangeShapes Go.WideShapes Go.ChangeAt Go.Joins
section
variable {H : Type} {enc : TypeId × Value → H} {P : Program} {w : World} {base : Nat} {spare : Nat → Bool} {held : Bool}
theorem AR_of_cells {k : IntKind} {w : World} {a : Addr} {xs : List Int} (hlt : a.block < w.heap.size) (hc : ∀ i, i < xs.length → w.cell? (a.add i) = some (.int k (xs.getD i 0))) (h0 : 0 < xs.length) :
    ∃ b o, some a = some (⟨b, o, none⟩ : Addr) ∧ b < w.heap.size ∧ ∀ j, j < xs.length → w.cell? ⟨b, o + j, none⟩ = some (.int k (xs[j]?.getD 0)) := by
  obtain ⟨b, o, s⟩ := a
  have h00 := hc 0 h0
  have hs : s = none := by
    cases s with
    | none => rfl
    | some y =>
      simp [Addr.add, World.cell?] at h00
      split at h00 <;> simp at h00
  subst hs
  refine ⟨b, o, rfl, hlt, fun j hj => ?_⟩
  have h := hc j hj
  have ha : (⟨b, o, none⟩ : Addr).add j = ⟨b, o + j, none⟩ := by unfold Addr.add; split <;> simp_all
  rw [ha] at h
  simpa using h
theorem IR_of_row {k : IntKind} {w : World} {a : Addr} {xs : List Int} (hl : xs.length ≤ maxLen) (hlt : 0 < xs.length → a.block < w.heap.size) (hc : ∀ i, i < xs.length → w.cell? (a.add i) = some (.int k (xs.getD i 0))) :
    xs.length ≤ maxLen ∧ (0 < xs.length → ∃ b o, some a = some (⟨b, o, none⟩ : Addr) ∧ b < w.heap.size ∧ ∀ j, j < xs.length → w.cell? ⟨b, o + j, none⟩ = some (.int k (xs[j]?.getD 0))) :=
  ⟨hl, fun h0 => AR_of_cells (hlt h0) hc h0⟩
/-- what a slice of integers that comes in reads as -/
def AR (k : IntKind) (w : World) (A : Option Addr) (xs : List Int) : Prop :=
  xs.length ≤ maxLen ∧ (0 < xs.length → ∃ b o, A = some ⟨b, o, none⟩ ∧ b < w.heap.size ∧ ∀ j, j < xs.length → w.cell? ⟨b, o + j, none⟩ = some (.int k (xs[j]?.getD 0)))
theorem AR.ir {w : World} {A : Option Addr} {xs : List Int} (h : AR .i64 w A xs) (hl : xs.length ≤ 17592186044415) : IR w A xs := ⟨hl, h.2⟩
theorem cell_lt {w : World} {a : Addr} {v : Value} (h : w.cell? a = some v) : a.block < w.heap.size := by
  unfold World.cell? at h
  split at h
  · rename_i h'; exact heap_lt h'
  · cases h
theorem add_block (a : Addr) (i : Nat) : (a.add i).block = a.block := by unfold Addr.add; split <;> rfl
theorem ARof {k : IntKind} {t e : TypeId} {A : Option Addr} {n c : Nat} {d : DataW H} {ps : List MemPlace} (ht : P.underlying t = some (.slice e)) (he : P.underlying e = some (.int k)) (hcell : P.cellsOf e = 1)
    (h : DataW.Trod enc P w 0 (fun _ => true) true t (.slice A n c) d ps) : ∃ xs : List Int, n = xs.length ∧ AR k w A xs ∧ ∀ x ∈ xs, (Lit.int k x).wf = true := by
  obtain ⟨fuel, hf⟩ := h
  rcases open_ints ht he hcell hf with ⟨hcs, _⟩ | ⟨a, l, c', zs, hcs, _, hl, hm, hz, _, hc, hwz⟩
  · simp [Value.cells] at hcs
    obtain ⟨rfl, rfl, rfl⟩ := hcs
    exact ⟨[], rfl, ⟨by simp, fun h => absurd h (by simp)⟩, fun x hx => by cases hx⟩
  · simp [Value.cells] at hcs
    obtain ⟨rfl, rfl, rfl⟩ := hcs
    have hzl : zs.length = c := by simpa using hz
    have htl : (zs.take n).length = n := by rw [List.length_take]; omega
    refine ⟨zs.take n, htl.symm, ?_, fun x hx => hwz x (List.mem_of_mem_take hx)⟩
    refine IR_of_row (by omega) (fun h0 => ?_) (fun i hi => ?_)
    · have := cell_lt (hc 0 (by omega)); rw [add_block] at this; exact this
    · rw [htl] at hi
      rw [hc i (by omega)]
      simp [hi]
theorem ARints {t e : TypeId} {A : Option Addr} {n c : Nat} {d : DataW H} {ps : List MemPlace} (ht : P.underlying t = some (.slice e)) (he : P.underlying e = some (.int .i64)) (hcell : P.cellsOf e = 1)
    (h : DataW.Trod enc P w 0 (fun _ => true) true t (.slice A n c) d ps) : ∃ xs : List Int, n = xs.length ∧ AR .i64 w A xs ∧ Fits xs := by
  obtain ⟨xs, h1, h2, h3⟩ := ARof ht he hcell h
  exact ⟨xs, h1, h2, fun x hx => bounds_i64 (h3 x hx)⟩
end
end Go.Proofs.Ytpejnhcmelkmeaa
