/- How a rhythm that comes in is opened. -/
import Derived.Test.YtbgfhbaaacmndaaFinWords
namespace Go.Proofs.Ytbgfhbaaacmndaa
open Go.RowKit

open Go.ChangeShapes Go.WideShapes Go.ChangeAt Go.Joins
section
variable {H : Type} {enc : TypeId × Value → H} {w : World}
theorem slice_of_trod {n : Nat} {v : Value} {y : DataW H × List MemPlace} (h : DataW.trod enc Try.prog w 0 (fun _ => true) true n 22 [v] = some y) :
    ∃ A c xs, v = .slice A (xs : List Int).length c ∧ AR .i64 w A xs ∧ Fits xs := by
  have key : ∃ A m c, v = .slice A m c := by
    rcases open_ints Try.underlying22 Try.underlying3 (by kernel_rfl) h with ⟨hcs, _⟩ | ⟨a, l, c', zs, hcs, _⟩
    · simp at hcs; exact ⟨_, _, _, hcs⟩
    · simp at hcs; exact ⟨_, _, _, hcs⟩
  obtain ⟨A, m, c, rfl⟩ := key
  obtain ⟨xs, e, h1, h2⟩ := ARints (enc := enc) (d := y.1) (ps := y.2) Try.underlying22 Try.underlying3 (by kernel_rfl) ⟨n, by simpa [Value.cells] using h⟩
  subst e
  exact ⟨A, c, xs, rfl, h1, h2⟩
theorem ARrhythm {r : Reach} {b0 : Nat} {v : Value} {d : DataW H} {ps : List MemPlace} (hv : Value.okWide Try.prog w r b0 24 v) (h : DataW.Trod enc Try.prog w 0 (fun _ => true) true 24 v d ps) :
    ∃ (s : Int) (A : Option Addr) (c : Nat) (xs : List Int), v = .agg #[.int .i64 s, .slice A xs.length c] ∧ (-9223372036854775808 ≤ s ∧ s ≤ 9223372036854775807) ∧ (AR .i64 w A xs ∧ Fits xs) := by
  obtain ⟨v0, v1, y0, y1, n, rfl, _, _, h0, h1⟩ := open_agg2 Try.underlying24 (by kernel_rfl) (by kernel_rfl) hv h
  obtain ⟨s, e, _, hwf⟩ := DataW.trod_int Try.underlying3 h0
  simp at e
  subst e
  obtain ⟨A, c, xs, rfl, h2, h3⟩ := slice_of_trod h1
  exact ⟨s, A, c, xs, rfl, bounds_i64 hwf, h2, h3⟩
end
end Go.Proofs.Ytbgfhbaaacmndaa
