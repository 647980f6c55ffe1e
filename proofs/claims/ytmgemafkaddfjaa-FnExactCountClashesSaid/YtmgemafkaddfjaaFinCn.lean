/- How a canon that comes in is opened. -/
import Derived.Test.YtmgemafkaddfjaaFinRh
namespace Go.Proofs.Ytmgemafkaddfjaa
open Go.RowKit

open Go.ChangeShapes Go.WideShapes Go.ChangeAt Go.Joins
section
variable {H : Type} {enc : TypeId × Value → H} {w : World}
theorem arr4 {α : Type} {cs : Array α} (h : cs.size = 4) : ∃ a b c d, cs = #[a, b, c, d] := by
  obtain ⟨l⟩ := cs
  match l, h with
  | [a, b, c, d], _ => exact ⟨a, b, c, d, rfl⟩
theorem rh_of_trod {n : Nat} {u v : Value} {y : DataW H × List MemPlace} (h : DataW.trod enc Try.prog w 0 (fun _ => true) true n 24 [u, v] = some y) :
    ∃ (s : Int) (A : Option Addr) (c : Nat) (xs : List Int), u = .int .i64 s ∧ v = .slice A xs.length c ∧ (-9223372036854775808 ≤ s ∧ s ≤ 9223372036854775807) ∧ (AR .i64 w A xs ∧ Fits xs) := by
  obtain ⟨y0, y1, m, _, _, h0, h1⟩ := trod_struct2 Try.underlying24 h
  have e0 : Try.prog.cellsOf 3 = 1 := by kernel_rfl
  have e1 : Try.prog.cellsOf 22 = 1 := by kernel_rfl
  simp only [e0, e1, List.drop_zero, List.drop_succ_cons, List.take_succ_cons, List.take_zero] at h0 h1
  obtain ⟨s, e, _, hwf⟩ := DataW.trod_int Try.underlying3 h0
  simp at e
  subst e
  obtain ⟨A, c, xs, rfl, h2, h3⟩ := slice_of_trod h1
  exact ⟨s, A, c, xs, rfl, rfl, bounds_i64 hwf, h2, h3⟩
theorem ARcanon {r : Reach} {b0 : Nat} {v : Value} {d : DataW H} {ps : List MemPlace} (hv : Value.okWide Try.prog w r b0 26 v) (h : DataW.Trod enc Try.prog w 0 (fun _ => true) true 26 v d ps) :
    ∃ (s : Int) (A : Option Addr) (c : Nat) (xs : List Int) (t : Int) (B : Option Addr) (e : Nat) (ys : List Int), v = .agg #[.int .i64 s, .slice A xs.length c, .int .i64 t, .slice B ys.length e] ∧ (-9223372036854775808 ≤ s ∧ s ≤ 9223372036854775807) ∧ (AR .i64 w A xs ∧ Fits xs) ∧ (-9223372036854775808 ≤ t ∧ t ≤ 9223372036854775807) ∧ (AR .i64 w B ys ∧ Fits ys) := by
  obtain ⟨cs, rfl, hsz⟩ := okWide_struct Try.underlying26 hv
  obtain ⟨a, b, c, e, rfl⟩ := arr4 (hsz.trans (by kernel_rfl))
  obtain ⟨fuel, hf⟩ := h
  obtain ⟨y0, y1, n, _, _, h0, h1⟩ := trod_struct2 Try.underlying26 hf
  have e0 : Try.prog.cellsOf 24 = 2 := by kernel_rfl
  have ec : (Value.agg #[a, b, c, e]).cells.toList = [a, b, c, e] := rfl
  simp only [e0, ec, List.drop_zero, List.drop_succ_cons, List.take_succ_cons, List.take_zero] at h0 h1
  obtain ⟨s, A, c1, xs, rfl, rfl, h2, h3⟩ := rh_of_trod h0
  obtain ⟨t, B, c2, ys, rfl, rfl, h4, h5⟩ := rh_of_trod h1
  exact ⟨s, A, c1, xs, t, B, c2, ys, rfl, h2, h3, h4, h5⟩
end
end Go.Proofs.Ytmgemafkaddfjaa
