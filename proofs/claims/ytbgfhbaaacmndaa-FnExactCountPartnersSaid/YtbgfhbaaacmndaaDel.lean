/- Deleting from a list what a test finds: plain laws, and what clearing leaves. -/
import Derived.Test.YtbgfhbaaacmndaaDiv
import Derived.Lib.SliceRun
namespace Go.Proofs.Ytbgfhbaaacmndaa
open Go.RowKit

def qn (p : Int → Bool) (x : Int) : Bool := !p x
/-- where the first number lies that the test finds -/
def Idx (p : Int → Bool) (xs : List Int) (r : Int) : Prop := (r = -1 ∧ xs.filter (qn p) = xs) ∨ ∃ i : Nat, r = (i : Int) ∧ i < xs.length ∧ (xs.take (i + 1)).filter (qn p) = xs.take i
theorem filter_take_miss {p : Int → Bool} {xs : List Int} {k : Nat} {x : Int} (h : (xs.take k).filter (qn p) = xs.take k) (hx : xs[k]? = some x) (hp : p x = false) : (xs.take (k + 1)).filter (qn p) = xs.take (k + 1) := by
  rw [List.take_add_one, hx, List.filter_append, h]; simp [qn, hp]
theorem idx_hit {p : Int → Bool} {xs : List Int} {k : Nat} {x : Int} (h : (xs.take k).filter (qn p) = xs.take k) (hx : xs[k]? = some x) (hp : p x = true) : Idx p xs k := by
  refine .inr ⟨k, rfl, (List.getElem?_eq_some_iff.1 hx).1, ?_⟩
  rw [List.take_add_one, hx, List.filter_append, h]; simp [qn, hp]
theorem idx_no {p : Int → Bool} {xs : List Int} {k : Nat} (h : (xs.take k).filter (qn p) = xs.take k) (hk : xs.length ≤ k) : Idx p xs (-1) := by
  rw [List.take_of_length_le hk] at h
  exact .inl ⟨rfl, h⟩
/-- where the loop that moves what stays stands: i places are filled, j are read -/
def Del (p : Int → Bool) (xs L : List Int) (i j : Nat) : Prop := L.length = xs.length ∧ i < j ∧ j ≤ xs.length ∧ L.take i = (xs.take j).filter (qn p) ∧ L.drop j = xs.drop j
theorem Del.start {p : Int → Bool} {xs : List Int} {i : Nat} (hi : i < xs.length) (h : (xs.take (i + 1)).filter (qn p) = xs.take i) : Del p xs xs i (i + 1) := ⟨rfl, by omega, hi, h.symm, rfl⟩
theorem Del.at_ {p : Int → Bool} {xs L : List Int} {i j : Nat} (h : Del p xs L i j) : L[j]? = xs[j]? := by
  have := congrArg (fun l => l[0]?) h.2.2.2.2
  simpa using this
theorem Del.miss {p : Int → Bool} {xs L : List Int} {i j : Nat} {x : Int} (h : Del p xs L i j) (hx : xs[j]? = some x) (hp : p x = true) : Del p xs L i (j + 1) := by
  obtain ⟨h1, h2, h3, h4, h5⟩ := h
  have hj := (List.getElem?_eq_some_iff.1 hx).1
  refine ⟨h1, by omega, hj, ?_, ?_⟩
  · rw [List.take_add_one, hx, List.filter_append, h4]; simp [qn, hp]
  · have := congrArg (List.drop 1) h5
    rwa [List.drop_drop, List.drop_drop] at this
theorem Del.hit {p : Int → Bool} {xs L : List Int} {i j : Nat} {x : Int} (h : Del p xs L i j) (hx : xs[j]? = some x) (hp : p x = false) : Del p xs (L.set i x) (i + 1) (j + 1) := by
  obtain ⟨h1, h2, h3, h4, h5⟩ := h
  have hj := (List.getElem?_eq_some_iff.1 hx).1
  refine ⟨by rw [List.length_set]; exact h1, by omega, hj, ?_, ?_⟩
  · rw [show (xs.take (j + 1)).filter (qn p) = L.take i ++ [x] by rw [List.take_add_one, hx, List.filter_append, ← h4]; simp [qn, hp], List.take_add_one, List.take_set_of_le (Nat.le_refl _), List.getElem?_set_self (by omega)]; rfl
  · rw [List.drop_set_of_lt (by omega)]
    have := congrArg (List.drop 1) h5
    rwa [List.drop_drop, List.drop_drop] at this
theorem Del.done {p : Int → Bool} {xs L : List Int} {i j : Nat} (h : Del p xs L i j) (hj : xs.length ≤ j) : L.take i = xs.filter (qn p) ∧ i = (xs.filter (qn p)).length := by
  obtain ⟨h1, h2, h3, h4, h5⟩ := h
  rw [List.take_of_length_le hj] at h4
  exact ⟨h4, by rw [← h4, List.length_take]; omega⟩
theorem io_past {w : World} {base c g k : Nat} {xs : List Int} {v : Value} (h : IO w base (some ⟨g, 0, none⟩) c xs) (hk : xs.length ≤ k) : IO (w.setCell ⟨g, k, none⟩ v) base (some ⟨g, 0, none⟩) c xs := by
  obtain ⟨hg, cur, hh, hs, ht⟩ := h.blkAt
  refine ⟨h.1, h.2.1, .inr ⟨g, _, rfl, hg, hh.set k v, by simpa using hs, ?_⟩⟩
  rw [Array.toList_setIfInBounds, List.take_set_of_le hk, ht]
theorem io_setCells {base c g : Nat} {xs : List Int} : ∀ (vs : List Value) (o : Nat) (w : World), IO w base (some ⟨g, 0, none⟩) c xs → xs.length ≤ o → IO (w.setCells g o vs) base (some ⟨g, 0, none⟩) c xs
  | [], _, _, h, _ => h
  | v :: r, o, _, h, ho => io_setCells r (o + 1) _ (io_past h ho) (by omega)
theorem below_cells {B g : Nat} {a : World} (hg : B ≤ g) : ∀ (vs : List Value) (o : Nat) (w : World), Below B a w → Below B a (w.setCells g o vs)
  | [], _, _, h => h
  | v :: r, o, _, h => below_cells hg r (o + 1) _ (h.setCell hg v)
theorem zero_int (w : World) : (zeroValue 3).run Try.prog w = .ok (.int .i64 0) w := by kernel_rfl
theorem clear_run {w : World} {base c g i n : Nat} {xs : List Int} (h : IO w base (some ⟨g, 0, none⟩) c xs) (hn : xs.length = n) (hi : i < n) (ty : TypeId) :
    (Builtin.clear_ #[22] ty #[.slice (some ⟨g, i, none⟩) (n - i) (c - i)]).run Try.prog w = .ok (.tuple #[]) (w.setCells g i (List.replicate (n - i) (.int .i64 0))) :=
  Lib.run_clear_slice w 22 3 ty (.int .i64 0) Try.underlying22 zero_int rfl rfl g i (n - i) (c - i) (by omega)
    (fun j hj => by obtain ⟨x, hx, _⟩ := h.cellAt (k := i + j) (by omega); rw [hx]; rfl) (fun j hj => h.frozenAt (i + j))
end Go.Proofs.Ytbgfhbaaacmndaa
