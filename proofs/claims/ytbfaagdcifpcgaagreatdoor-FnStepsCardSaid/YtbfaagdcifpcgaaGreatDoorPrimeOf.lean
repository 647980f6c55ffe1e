/- The prime of a power: the program's and the reference's are one number. -/
import Derived.Test.YtbfaagdcifpcgaaGreatDoorPrimePlain
namespace Go.Proofs.YtbfaagdcifpcgaaGreatDoor
open Go.RowKit
set_option maxRecDepth 20000

theorem divs_cell {w : World} {A : Option Addr} {c B : Nat} {n p : Int} (h : IO w B A c (divs n)) (hp : IsLp n p) (hn : n ≤ 1000) :
    ∃ g, A = some ⟨g, 0, none⟩ ∧ w.cell? ⟨g, 1, none⟩ = some (.int .i64 p) ∧ 1 < (divs n).length := by
  obtain ⟨t, ht⟩ := divs_two n p hp hn
  have hl : 1 < (divs n).length := by rw [ht]; simp
  rcases h.2.2 with ⟨_, e⟩ | ⟨g, cur, e, _⟩
  · rw [ht] at e; cases e
  · obtain ⟨b, o, e', _, hc⟩ := h.reads.at_ (by omega)
    rw [e] at e'; injection e' with e'; injection e' with e1 e2; subst e1 e2
    have := hc 1 hl
    rw [ht] at this
    exact ⟨g, e, by simpa using this, hl⟩
end Go.Proofs.YtbfaagdcifpcgaaGreatDoor
